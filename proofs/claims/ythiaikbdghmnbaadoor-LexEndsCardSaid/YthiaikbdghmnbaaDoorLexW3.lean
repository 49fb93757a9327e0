/- Walks: a row of trees; both functions together. -/
import Derived.Test.YthiaikbdghmnbaaDoorLexW2
import Derived.Test.YthiaikbdghmnbaaDoorMem
namespace Go.Proofs.YthiaikbdghmnbaaDoor
open Go.RowKit

theorem Tryd.infoTree : (Tryd.prog.info? 35).map (fun i => (i.zero, i.size, i.bytes)) = some (some (.agg #[.string ⟨#[]⟩, .slice none 0 0, .bool false, .int .i64 0]), 4, 56) := by kernel_rfl

theorem Tryd.eltTree : Elt Tryd.prog 27 35 4 56 := by
  obtain ⟨i0, hi0, hz0, hz1, hz2⟩ := info_parts Tryd.infoTree
  exact ⟨i0, _, Tryd.underlying27, hi0, hz0, hz1, hz2, rfl, by decide⟩

set_option maxHeartbeats 1000000 in
theorem row_of_tree (s : ByteArray) (hs : s.size ≤ 262144) (n : Nat) (HT : TreeC s n) : RowC s n := by
  intro at_ op br w hat hn hop h
  have hlt := Blk.lt h
  generalize hrr : rowP s at_ op = rr
  have HRR := Lib.hid hrr
  clear hrr
  go_enter Tryd.func24, Tryd.ntmps24
  go_wp2_with fail
  go_loopg [2] (s.size - at_) (fun g v wr => ∃ (k : Nat) (f : F) (xs : List Value), RD wr br s k op ∧ at_ ≤ k ∧ k ≤ s.size ∧ s.size - k ≤ g ∧ f.len ≤ k ∧
      wr.ownsRow w.heap.size 35 4 v f.len xs ∧ Elems (fun b => w.heap.size ≤ b ∧ v.ownBlock ≠ some b) wr f xs ∧ Hid (rowP s at_ op = R.pre f (rowP s k op)) ∧ Ext (· = br) w wr)
  case atStart => exact ⟨at_, .nil, [], h, Nat.le_refl _, hat, Nat.le_refl _, Nat.zero_le _, World.ownsRow_nil _ _ _ _, rfl, (R.pre_nil _).symm, Ext.refl _ _⟩
  case round =>
    obtain ⟨k, f, xs, hrd, hk1, hk2, hg, hfl, hown, hel, HP, hext⟩ := hrel
    go_wp2_with fail
    refine (while_blank br s k op _ hrd hk2 hs).mono ?_
    rintro e w1 ⟨rfl, hrd1, hext1⟩
    have hi1 := adv_ge isBlank s k
    have hi2 := adv_le isBlank s k hk2
    have HE := Lib.hid (rowP_tree s k op hk2)
    generalize adv isBlank s k = i at *
    have hown1 := owns_ext hown hext1 (fun b _ hb e => by omega)
    have hel1 := hel.ext hext1 (fun b hb e => by have := hb.1; omega)
    have hext2 := hext.trans' hext1
    clear hown hel hext hext1 hrd
    have c0 := hrd1.c0
    have c1 := hrd1.c1
    by_cases hlt1 : i < s.size
    · by_cases h41 : s[i] = 41
      · have h41a : ((s[i].toNat : Int) == 41) = true := by rw [h41]; rfl
        have hc41 : (41 : UInt8).toNat = 41 := rfl
        go_wp2_with fail
        go_quiet ((go_at_call 26; refine Calls.quiet_of (more_yes _ s i op _ hrd1 hlt1)))
        go_wp2_with fail
        go_ret
        have er : rr = .ok (f, i) := by rw [← HRR.out, HP.out, HE.out, dif_pos hlt1, if_pos h41]; simp [R.pre, F.app_nil]
        rw [er]
        exact ⟨hext2.drewN _, u2, rfl, (sl_owned hown1 hel1).drewN nq, Blk.drewN hrd1 _⟩
      · have h41a : ((s[i].toNat : Int) == 41) = false := by
          simp only [beq_eq_false_iff_ne]
          intro e; exact h41 (UInt8.toNat_inj.1 (by simpa using (by omega : s[i].toNat = 41)))
        go_wp2_with fail
        go_quiet ((go_at_call 26; refine Calls.quiet_of (more_yes _ s i op _ hrd1 hlt1)))
        go_wp2_with fail
        cases htr : treeP s i op s[i] with
        | error x =>
          obtain ⟨p, er⟩ := x
          have HC := HT i op br (w1.drewN nq) hlt1 (by omega) hop hrd1
          rw [htr] at HC
          refine HC.mono ?_
          rintro e w5 ⟨hx5, rfl⟩
          have er : rr = .error (p, er) := by rw [← HRR.out, HP.out, HE.out, dif_pos hlt1, if_neg h41]; simp [R.pre, htr]
          rw [er]
          exact ⟨rfl, (hext2.drewN _).trans' hx5, rfl⟩
        | ok x =>
          obtain ⟨wd, rw_, kf, e'⟩ := x
          have hend := treeP_end hlt1 htr
          have HC := HT i op br (w1.drewN nq) hlt1 (by omega) hop hrd1
          rw [htr] at HC
          refine HC.mono ?_
          rintro e w5 ⟨hx5, a, n', cap, rfl, hsl, hR5⟩
          have HTR := Lib.hid htr
          clear HC htr c0 c1 h41a
          have hown5 := owns_ext (owns_ext hown1 (ext_drewN w1 nq (fun _ => False)) (fun _ _ _ h => h)) hx5 (fun b _ hb e => by omega)
          have hel5 := (hel1.ext (ext_drewN w1 nq (fun _ => False)) (fun _ _ h => h)).ext hx5 (fun b hb e => by have := hb.1; omega)
          have hX5 := (hext2.drewN nq).trans' hx5
          have hl1 : w.heap.size ≤ w1.heap.size := hext2.size
          have hu2 := hown1.lt
          clear hown1 hel1 hext2 hrd1
          go_wp2_with ((at_builtin; refine wpList_append_one rfl (.tmp 27) (.tmp 30) 27 rfl w.heap.size 35 4 56 Tryd.eltTree _ _ _ rfl hown5 [.string wd, .slice a n' cap, .bool rw_, .int .i64 i] rfl rfl rfl (by unfold maxLen; omega) (by omega) (by have := hX5.size; omega) ?_; intro v' w6 hown6 hg6))
          go_roundg (s.size - e')
          case measure => omega
          case rel =>
            refine ⟨e', f.app (.cons wd rw_ i kf .nil), _, ?_, by omega, by omega, Nat.le_refl _, ?_, ?_, Elems.snoc (hel5.grew hg6) ?_ (Sl.grew (hsl.mono ?_) hg6), ?_, hg6.ext hX5 ?_⟩
            · exact (hg6.by_.block br (Blk.lt hR5) (fun e => by have := (hu2 br e.symm).1; omega)).trans hR5
            · rw [F.len_app]; simp only [F.len]; omega
            · rw [F.len_app]; exact hown6
            · unfold maxLen; omega
            · exact fun b hb _ => ⟨by have : w1.heap.size ≤ b := hb; omega, fun e => by have : w1.heap.size ≤ b := hb; have := (hu2 b e).2; omega⟩
            · exact show _ = _ by rw [HP.out, HE.out, dif_pos hlt1, if_neg h41]; simp only [HTR.out]; rw [R.pre_pre]
            · exact fun k hk hlt => by have := (hu2 k hk).1; omega
    · go_wp2_with fail
      go_quiet ((go_at_call 26; refine Calls.quiet_of (more_no _ s i op _ hrd1 (by omega))))
      go_wp2_with fail
      go_ret
      have er : rr = .ok (f, i) := by rw [← HRR.out, HP.out, HE.out, dif_neg hlt1]; simp [R.pre, F.app_nil]
      rw [er]
      exact ⟨hext2.drewN _, u2, rfl, (sl_owned hown1 hel1).drewN nq, Blk.drewN hrd1 _⟩

/-- Both, by induction on what is left of the text. -/
theorem both (s : ByteArray) (hs : s.size ≤ 262144) : ∀ n, TreeC s n
  | 0 => fun _ _ _ _ _ h => by omega
  | n + 1 => tree_of_row s hs n (row_of_tree s hs n (both s hs n))

theorem row_any (s : ByteArray) (hs : s.size ≤ 262144) (i op br : Nat) (w : World) (hi : i ≤ s.size) (hop : op ≤ 400) (h : RD w br s i op) :
    Calls Tryd.prog 24 #[.pointer (some ⟨br, 0, none⟩)] w (RowPost w br s op (rowP s i op)) :=
  row_of_tree s hs (s.size + 1) (both s hs (s.size + 1)) i op br w hi (by omega) hop h

end Go.Proofs.YthiaikbdghmnbaaDoor
