/- Texts put together by wip/shake.py: PNatOf, PNum, PAll, PLeaf, PLeaf2: the walks and the laws that the claim's last theorem rests on. -/
import Derived.Test.YtmcinpeplkkpfaaGreatDoorZ11
import Derived.Test.YtmcinpeplkkpfaaGreatDoorShelf
import Derived.Test.YtmcinpeplkkpfaaGreatDoorZ10
namespace Go.Proofs.YtmcinpeplkkpfaaGreatDoor
open Go.RowKit
set_option linter.unusedVariables false
theorem bytesWorld_ext (w : World) (e : TypeId) (s : ByteArray) : Ext (fun _ => False) w (Lib.bytesWorld w e s) := by
  refine ⟨rfl, rfl, rfl, ?_, fun k hk _ => Lib.bytesWorld_at_old w e s k hk⟩
  unfold Lib.bytesWorld World.freeze
  simp

theorem parseUint_any (s : ByteArray) (w : World) (h : s.data.toList.all digit = true) (h0 : s.size ≠ 0) (h9 : s.size ≤ 9) :
    Calls Tryz.prog 221 #[.string s, .int .i64 10, .int .i64 64] w fun e w' => e = .returned (.tuple #[.int .u64 (decL s.data.toList : Int), .nilIface]) ∧ Ext (fun _ => False) w w' := by
  have hl : s.data.toList.length = s.size := by rw [Lib.size_eq]
  refine (Tryz.strconv_ParseUint_10_at64_ok s (by omega) (decL s.data.toList) (parse_chunk _ h (fun e => by rw [e] at hl; simp at hl; omega) (by omega)) w).mono ?_
  rintro e w' ⟨rfl, hw⟩
  refine ⟨rfl, ?_⟩
  rcases hw with rfl | rfl
  · exact Ext.refl _ _
  · exact bytesWorld_ext w _ s

def OfPost (w : World) (l : List UInt8) (e : Ending) (w' : World) : Prop :=
  Ext (fun _ => False) w w' ∧ ∃ v, e = .returned (.tuple #[v, .bool (isDec l)]) ∧ if isDec l = true then SlU (fun b => w.heap.size ≤ b) w' v (limbs (decL l)).length (digsU (limbs (decL l))) else v = .slice none 0 0

set_option maxRecDepth 100000 in
set_option maxHeartbeats 1000000 in
theorem natOf_no (s : ByteArray) (w : World) (hs : s.size ≤ 100000) (h : isDec s.data.toList = false) :
    Calls Tryz.prog 198 #[.string s] w (OfPost w s.data.toList) := by
  have hl : s.data.toList.length = s.size := by rw [Lib.size_eq]
  have hfin : ∀ e, e = Ending.returned (.tuple #[.slice none 0 0, .bool false]) → OfPost w s.data.toList e w := by
    rintro e rfl
    exact ⟨Ext.refl _ _, _, by rw [h], by rw [h]; rfl⟩
  have HFIN := Lib.hid hfin
  have H := Lib.hid h
  clear hfin h
  have hsl : s.toList.isEmpty = s.data.toList.isEmpty := by rw [Lib.toList_data]
  by_cases h0 : s.size = 0
  · have e0 : s.toList.isEmpty = true := by rw [hsl, List.isEmpty_iff]; exact List.eq_nil_of_length_eq_zero (by omega)
    have e1 : s.toList = [] := List.isEmpty_iff.1 e0
    clear hl hsl
    go_enter Tryz.func198, Tryz.ntmps198
    go_wp2_with fail
    go_ret2
    exact HFIN.out _ rfl
  · have e0 : s.toList.isEmpty = false := by
      rw [hsl, List.isEmpty_eq_false_iff]; intro e; rw [e] at hl; simp at hl; omega
    have hlt : 0 < s.size := by omega
    have e1 : ¬ s.toList = [] := fun e => by rw [e] at e0; cases e0
    by_cases h1 : 1 < s.size ∧ s[0] = 48
    · obtain ⟨h1, h2⟩ := h1
      have n1 : (1 : Int) < (s.size : Int) := by omega
      have n2 : (s[0].toNat : Int) = 48 := by rw [h2]; rfl
      have n3 : ((s[0].toNat : Int) == 48) = true := by rw [n2]; rfl
      clear hl hsl h2
      go_enter Tryz.func198, Tryz.ntmps198
      go_wp2_with fail
      go_ret2
      exact HFIN.out _ rfl
    · have hnd : s.data.toList.all digit = false := by
        rw [Bool.eq_false_iff]
        intro ha
        have := (isDec_iff s.data.toList).2 ⟨fun e => by rw [e] at hl; simp at hl; omega, ha, fun ⟨g1, g2⟩ => h1 ⟨by omega, by
          have e := drop_cons hlt
          rw [List.drop_zero] at e
          rw [e] at g2
          simpa using g2⟩⟩
        rw [H.out] at this; cases this
      have HD := Lib.hid (decimal_any s w (by omega))
      rw [hnd] at HD
      have HND := Lib.hid hnd
      clear hnd hsl hl
      by_cases h2 : 1 < s.size
      · have n1 : (1 : Int) < (s.size : Int) := by omega
        have n2 : ¬ (s[0].toNat : Int) = 48 := fun e => h1 ⟨h2, UInt8.toNat_inj.1 (by simpa using (by omega : s[0].toNat = 48))⟩
        have n3 : ((s[0].toNat : Int) == 48) = false := by simpa using n2
        clear h1
        go_enter Tryz.func198, Tryz.ntmps198
        go_wp2_with fail
        refine HD.out.mono ?_
        rintro e w1 ⟨rfl, rfl⟩
        go_wp2_with fail
        go_ret2
        exact HFIN.out _ rfl
      · have n1 : ¬ (1 : Int) < (s.size : Int) := by omega
        have n1d : decide ((1 : Int) < (s.size : Int)) = false := by simp; omega
        clear h1
        go_enter Tryz.func198, Tryz.ntmps198
        go_wp2_with fail
        refine HD.out.mono ?_
        rintro e w1 ⟨rfl, rfl⟩
        go_wp2_with fail
        go_ret2
        exact HFIN.out _ rfl

def OfInv (L : List UInt8) (p : List UInt8) (cs : List Nat) : Prop := decL L = valD cs + base9 ^ cs.length * decL p ∧ p.all digit = true ∧ (∀ d ∈ cs, d < base9) ∧ cs.length + p.length ≤ L.length

theorem ofInv_step {L p q : List UInt8} {cs : List Nat} (h : OfInv L (p ++ q) cs) (hq : q.length = 9 ∨ p = []) (hq9 : q.length ≤ 9) (hq0 : q ≠ []) : OfInv L p (cs ++ [decL q]) ∧ q.all digit = true := by
  obtain ⟨h1, h2, h3, h4⟩ := h
  rw [List.all_append, Bool.and_eq_true] at h2
  have hlt := decL_lt q h2.2
  have hp : 10 ^ q.length ≤ base9 := Nat.pow_le_pow_right (n := 10) (by decide) hq9
  have hqp : 0 < q.length := List.length_pos_iff.2 hq0
  refine ⟨⟨?_, h2.1, ?_, ?_⟩, h2.2⟩
  · have hb : p ≠ [] → 10 ^ q.length = base9 := fun hp => by
      rcases hq with hq | hq
      · rw [hq]; rfl
      · exact absurd hq hp
    have e : valD [decL q] = decL q := by simp [valD]
    rw [h1, decL_app, valD_app, e, List.length_append, List.length_cons, List.length_nil, Nat.zero_add, Nat.pow_succ]
    by_cases hp : p = []
    · subst hp
      have e0 : decL [] = 0 := rfl
      rw [e0, Nat.zero_mul, Nat.zero_add, Nat.mul_zero, Nat.add_zero]
    · rw [hb hp]
      clear hlt hp h1 h3
      generalize base9 = b
      generalize b ^ cs.length = B
      generalize decL p = P
      generalize decL q = Q
      generalize valD cs = A
      rw [Nat.mul_add, Nat.mul_comm P b, ← Nat.mul_assoc, Nat.add_assoc, Nat.add_comm (B * b * P)]
  · intro d hd
    rcases List.mem_append.1 hd with hd | hd
    · exact h3 d hd
    · rw [List.mem_singleton] at hd
      subst hd
      exact Nat.lt_of_lt_of_le hlt hp
  · simp at h4 ⊢; omega

theorem trimD_len : ∀ l : List Nat, (trimD l).length ≤ l.length
  | [] => Nat.le_refl _
  | d :: l => by
    unfold trimD
    split
    · simp
    · simp [trimD_len l]

theorem limbs_len (cs : List Nat) (h : ∀ d ∈ cs, d < base9) : (limbs (valD cs)).length ≤ cs.length := by
  rw [← trimD_limbs cs h]; exact trimD_len cs

set_option maxRecDepth 100000 in
set_option maxHeartbeats 2000000 in
theorem natOf_yes (s : ByteArray) (w : World) (hs : s.size ≤ 100000) (h : isDec s.data.toList = true) :
    Calls Tryz.prog 198 #[.string s] w (OfPost w s.data.toList) := by
  have hl : s.data.toList.length = s.size := by rw [Lib.size_eq]
  obtain ⟨g0, g1, g2⟩ := (isDec_iff _).1 h
  have hfin : ∀ e w' v, Ext (fun _ => False) w w' → SlU (fun b => w.heap.size ≤ b) w' v (limbs (decL s.data.toList)).length (digsU (limbs (decL s.data.toList))) → e = Ending.returned (.tuple #[v, .bool true]) → OfPost w s.data.toList e w' := by
    rintro e w' v hx hs rfl
    exact ⟨hx, v, by rw [h], by rw [if_pos h]; exact hs⟩
  have HFIN := Lib.hid hfin
  have hsl : s.toList.isEmpty = s.data.toList.isEmpty := by rw [Lib.toList_data]
  have hlt : 0 < s.size := by rw [← hl]; exact List.length_pos_iff.2 g0
  have e0 : s.toList.isEmpty = false := by
    rw [hsl, List.isEmpty_eq_false_iff]; exact g0
  have e1 : ¬ s.toList = [] := fun e => by rw [e] at e0; cases e0
  have HD := Lib.hid (decimal_any s w (by omega))
  rw [g1] at HD
  have hinv : OfInv s.data.toList s.data.toList [] := ⟨by simp [valD], g1, by simp, by simp⟩
  have HINV := Lib.hid hinv
  have h48 : ¬ (1 < s.size ∧ s[0] = 48) := fun ⟨a, b⟩ => g2 ⟨by omega, by
    have e := drop_cons hlt
    rw [List.drop_zero] at e
    rw [e, b]; rfl⟩
  clear hfin g0 g1 g2 h hinv hsl
  have loop : ∀ n : Nat, True := fun _ => trivial
  clear loop
  by_cases h2 : 1 < s.size
  · have n1 : (1 : Int) < (s.size : Int) := by omega
    have n2 : ¬ (s[0].toNat : Int) = 48 := fun e => h48 ⟨h2, UInt8.toNat_inj.1 (by simpa using (by omega : s[0].toNat = 48))⟩
    have n3 : ((s[0].toNat : Int) == 48) = false := by simpa using n2
    clear h48
    go_enter Tryz.func198, Tryz.ntmps198
    go_wp2_with fail
    refine HD.out.mono ?_
    rintro e w1 ⟨rfl, rfl⟩
    clear n3 n2
    go_wp2_with fail
    go_loopg [0, 4] s.size (fun q sv v wr => ∃ (t : ByteArray) (cs : List Nat), sv = .string t ∧ q = t.size ∧ t.size ≤ 100000 ∧ Hid (OfInv s.data.toList t.data.toList cs) ∧ Hid (Ext (fun _ => False) w wr) ∧ w.heap.size ≤ wr.heap.size ∧ cs.length ≤ 100000 ∧ Hid (wr.ownsRow w.heap.size 327 1 v cs.length (cs.map (fun d : Nat => Value.int .u64 (d : Int)))))
    case atStart => exact ⟨s, [], rfl, rfl, hs, HINV, Lib.hid (Ext.refl _ _), Nat.le_refl _, by simp, Lib.hid ⟨by simp, .inl ⟨rfl, rfl⟩⟩⟩
    case round =>
      obtain ⟨t, cs, rfl, rfl, ht, HI, HX, hsz, hcl, HO⟩ := hrel
      have htl : t.data.toList.length = t.size := by rw [Lib.size_eq]
      clear e0 e1 n1
      by_cases ht0 : 0 < t.size
      · have t0 : (0 : Int) < (t.size : Int) := by omega
        go_wp2_with fail
        have hmx : max ((t.size : Int) - 9) 0 = ((t.size - 9 : Nat) : Int) := by omega
        rw [hmx, Int.toNat_natCast]
        obtain ⟨k, hk⟩ : ∃ k, k = t.size - 9 := ⟨_, rfl⟩
        rw [← hk]
        have hk1 : k < t.size := by omega
        have hk2 : t.size - k = 9 ∨ k = 0 := by omega
        have hk3 : t.size - k ≤ 9 := by omega
        clear hk hmx
        have hq : (t.extract k t.size).data.toList = t.data.toList.drop k := Lib.extract_to_end t k
        have hp : (t.extract 0 k).data.toList = t.data.toList.take k := by rw [Lib.extract_data]; simp
        have hql : (t.data.toList.drop k).length = t.size - k := by rw [List.length_drop, htl]
        have hpl : (t.data.toList.take k).length = k := by rw [List.length_take, htl]; omega
        have hst := ofInv_step (L := s.data.toList) (p := t.data.toList.take k) (q := t.data.toList.drop k) (cs := cs) (by rw [List.take_append_drop]; exact HI.out) (by rw [hql]; rcases hk2 with h | h; exact .inl h; exact .inr (by subst h; simp)) (by rw [hql]; exact hk3) (fun e => by rw [e] at hql; simp at hql; omega)
        have HST := Lib.hid hst
        have hqs : (t.extract k t.size).size = t.size - k := by rw [Lib.size_eq, hq, hql]
        have hps : (t.extract 0 k).size = k := by rw [Lib.size_eq, hp, hpl]
        refine (parseUint_any (t.extract k t.size) wr (by rw [hq]; exact hst.2) (by omega) (by omega)).mono ?_
        rintro e w1 ⟨rfl, hx1⟩
        rw [hq]
        have HQ := Lib.hid hq
        have HPP := Lib.hid hp
        have HPS := Lib.hid hps
        clear hq hp hql hpl hst hqs hps htl HI
        have k0 : (0 : Int) ≤ (k : Int) := by omega
        have k1 : (k : Int) ≤ (t.size : Int) := by omega
        have hown1 := owns_ext HO.out hx1 (fun _ _ _ h => h)
        have HX1 := Lib.hid (HX.out.trans' hx1)
        have hsz1 := hx1.size
        clear hx1
        go_wp2_with fail
        haveI ne : Nonempty (Wd (fun _ => True)) := ⟨⟨w1, trivial⟩⟩
        refine wp_region_steps (S := fun _ => True) [([0, 1, 4, 5, 6], [2, 3]), ([7], [])] _ (by kernel_rfl) (by kernel_rfl) rfl (by kernel_rfl) (fun _ d _ _ _ h => by cases d <;> exact h) trivial ?_
        simp only [segOps, List.filterMap_cons, List.filterMap_nil, List.getElem?_cons_zero, List.getElem?_cons_succ]
        refine wpSegs_cons ?_
        change wpQuiet _ _ _ _ (_ :: _ :: _ :: _ :: _ :: []) _
        repeat (go_big_quiet_step (fail))
        refine wpQuiet_nil ?_
        refine wpLoud_step rfl (fun K hK => ?_)
        go_simp
        refine hK _ _ trivial ?_
        clear hK
        refine wpLoud_step rfl (fun K hK => ?_)
        refine wp_append_own2 (.tmp 39) (.tmp 41) 345 rfl w.heap.size 327 1 8 eltU64 _ cs.length _ rfl (owns_ext (hown1.alloc _) (M := fun _ => False) (Ext.refl _ _).drew (fun _ _ _ h => h)) ⟨w1.heap.size, 0, none⟩ 1 1 [.int .u64 (decL (t.data.toList.drop k) : Int)] rfl rfl ?_ (by simp [Value.oneCell']) (by unfold maxLen; omega) (by omega) ?_ ?_
        · exact new_cells w1 [.int .u64 (decL (t.data.toList.drop k) : Int)] 327
        · show w.heap.size ≤ (w1.alloc _).heap.size
          simp; omega
        · intro v' w' hown' hg'
          refine hK _ _ trivial ?_
          clear hK
          refine wpLoud_nil ?_
          refine wpSegs_cons ?_
          change wpQuiet _ _ _ _ (_ :: []) _
          obtain ⟨a9, n9, cap9, rfl⟩ : ∃ a n c, v' = .slice a n c := by
            rcases hown'.2 with ⟨rfl, _⟩ | ⟨g9, c9, _, rfl, _⟩
            · exact ⟨_, _, _, rfl⟩
            · exact ⟨_, _, _, rfl⟩
          simp only [Act.put, List.setIfInBounds_toArray, List.set_cons_succ, List.set_cons_zero]
          repeat (go_big_quiet_step (fail))
          refine wpQuiet_nil ?_
          refine wpLoud_nil ?_
          refine wpSegs_nil ?_
          have hlt1 := hown1.lt
          have hx2 := hg'.ext ((HX1.out.alloc (.cells #[.int .u64 (decL (t.data.toList.drop k) : Int)] 327)).drew) (fun b hb hlt => by have := (hlt1 b hb).1; omega)
          have hsz2 := hg'.by_.size
          have HX2 := Lib.hid hx2
          have HO2 := Lib.hid hown'
          clear hown' hg' hx2 ne
          go_wp2_with fail
          go_roundg (t.extract 0 k).size
          case measure => rw [HPS.out]; omega
          case rel =>
            refine ⟨t.extract 0 k, cs ++ [decL (t.data.toList.drop k)], by simp, rfl, by rw [HPS.out]; omega, Lib.hid (by rw [HPP.out]; exact HST.out.1), HX2.out |> Lib.hid, ?_, ?_, Lib.hid ?_⟩
            · have : (w1.alloc (.cells #[.int .u64 (decL (t.data.toList.drop k) : Int)] 327)).drew.heap.size ≤ w'.heap.size := hsz2
              have h3 : (w1.alloc (.cells #[.int .u64 (decL (t.data.toList.drop k) : Int)] 327)).drew.heap.size = w1.heap.size + 1 := by show (w1.alloc _).heap.size = _; simp
              omega
            · have := HST.out.1.2.2.2
              rw [List.length_take] at this
              omega
            · rw [List.length_append, List.map_append]; exact HO2.out
      · have t0 : (t.size : Int) ≤ 0 := by omega
        have ht1 : t.data.toList = [] := List.eq_nil_of_length_eq_zero (by omega)
        have hval : decL s.data.toList = valD cs := by
          have := HI.out.1
          rw [ht1] at this
          rw [this]; rfl
        have hall := HI.out.2.2.1
        have hsl := slU_owned HO.out (u := d64U cs) (rep_d64.2 rfl)
        have HC := Lib.hid (carried_any wr hsl (fun k => by
          by_cases hk : k < cs.length
          · have := hall cs[k] (List.getElem_mem hk)
            have e : cs.getD k 0 = cs[k] := by simp [hk]
            unfold base9 at this
            omega
          · have e : cs.getD k 0 = 0 := by simp [List.getD, List.getElem?_eq_none (by omega : cs.length ≤ k)]
            omega) (by omega))
        have HLL := Lib.hid (limbs_len cs hall)
        have HLA := Lib.hid (fun d hd => Nat.lt_of_lt_of_le (limbs_all (valD cs) d hd) (by decide : base9 ≤ 4294967296))
        have HV := Lib.hid hval
        have HX1 := HX
        obtain ⟨a9, cap9, rfl, _⟩ := hsl.shape
        clear hval hall ht1 hsl HI htl HO
        go_wp2_with fail
        refine HC.out.mono ?_
        rintro e w5 ⟨hx5, v5, rfl, hsl5⟩
        have HR := Lib.hid (row_any64 w5 hsl5 HLA.out (Nat.le_trans HLL.out (by omega)))
        obtain ⟨a8, cap8, rfl, _⟩ := hsl5.shape
        have HX5 := Lib.hid (HX1.out.trans' hx5)
        clear hsl5 hx5 HC
        go_wp2_with fail
        refine HR.out.mono ?_
        rintro e w6 ⟨hx6, v6, rfl, hsl6⟩
        obtain ⟨a7, cap7, rfl, _⟩ := hsl6.shape
        have hsl7 := hsl6.mono (D' := fun b => w.heap.size ≤ b) (fun b hb _ => Nat.le_trans HX5.out.size hb)
        rw [← HV.out] at hsl7
        have HS7 := Lib.hid hsl7
        have HX6 := Lib.hid (HX5.out.trans' hx6)
        clear hsl6 hsl7 hx6 HR
        go_wp2_with fail
        go_ret2
        exact HFIN.out _ _ _ HX6.out HS7.out (by rw [HV.out]; rfl)
  · have n1 : ¬ (1 : Int) < (s.size : Int) := by omega
    have n1d : decide ((1 : Int) < (s.size : Int)) = false := by simp; omega
    clear h48
    go_enter Tryz.func198, Tryz.ntmps198
    go_wp2_with fail
    refine HD.out.mono ?_
    rintro e w1 ⟨rfl, rfl⟩
    clear n1d
    go_wp2_with fail
    go_loopg [0, 4] s.size (fun q sv v wr => ∃ (t : ByteArray) (cs : List Nat), sv = .string t ∧ q = t.size ∧ t.size ≤ 100000 ∧ Hid (OfInv s.data.toList t.data.toList cs) ∧ Hid (Ext (fun _ => False) w wr) ∧ w.heap.size ≤ wr.heap.size ∧ cs.length ≤ 100000 ∧ Hid (wr.ownsRow w.heap.size 327 1 v cs.length (cs.map (fun d : Nat => Value.int .u64 (d : Int)))))
    case atStart => exact ⟨s, [], rfl, rfl, hs, HINV, Lib.hid (Ext.refl _ _), Nat.le_refl _, by simp, Lib.hid ⟨by simp, .inl ⟨rfl, rfl⟩⟩⟩
    case round =>
      obtain ⟨t, cs, rfl, rfl, ht, HI, HX, hsz, hcl, HO⟩ := hrel
      have htl : t.data.toList.length = t.size := by rw [Lib.size_eq]
      clear e0 e1 n1
      by_cases ht0 : 0 < t.size
      · have t0 : (0 : Int) < (t.size : Int) := by omega
        go_wp2_with fail
        have hmx : max ((t.size : Int) - 9) 0 = ((t.size - 9 : Nat) : Int) := by omega
        rw [hmx, Int.toNat_natCast]
        obtain ⟨k, hk⟩ : ∃ k, k = t.size - 9 := ⟨_, rfl⟩
        rw [← hk]
        have hk1 : k < t.size := by omega
        have hk2 : t.size - k = 9 ∨ k = 0 := by omega
        have hk3 : t.size - k ≤ 9 := by omega
        clear hk hmx
        have hq : (t.extract k t.size).data.toList = t.data.toList.drop k := Lib.extract_to_end t k
        have hp : (t.extract 0 k).data.toList = t.data.toList.take k := by rw [Lib.extract_data]; simp
        have hql : (t.data.toList.drop k).length = t.size - k := by rw [List.length_drop, htl]
        have hpl : (t.data.toList.take k).length = k := by rw [List.length_take, htl]; omega
        have hst := ofInv_step (L := s.data.toList) (p := t.data.toList.take k) (q := t.data.toList.drop k) (cs := cs) (by rw [List.take_append_drop]; exact HI.out) (by rw [hql]; rcases hk2 with h | h; exact .inl h; exact .inr (by subst h; simp)) (by rw [hql]; exact hk3) (fun e => by rw [e] at hql; simp at hql; omega)
        have HST := Lib.hid hst
        have hqs : (t.extract k t.size).size = t.size - k := by rw [Lib.size_eq, hq, hql]
        have hps : (t.extract 0 k).size = k := by rw [Lib.size_eq, hp, hpl]
        refine (parseUint_any (t.extract k t.size) wr (by rw [hq]; exact hst.2) (by omega) (by omega)).mono ?_
        rintro e w1 ⟨rfl, hx1⟩
        rw [hq]
        have HQ := Lib.hid hq
        have HPP := Lib.hid hp
        have HPS := Lib.hid hps
        clear hq hp hql hpl hst hqs hps htl HI
        have k0 : (0 : Int) ≤ (k : Int) := by omega
        have k1 : (k : Int) ≤ (t.size : Int) := by omega
        have hown1 := owns_ext HO.out hx1 (fun _ _ _ h => h)
        have HX1 := Lib.hid (HX.out.trans' hx1)
        have hsz1 := hx1.size
        clear hx1
        go_wp2_with fail
        haveI ne : Nonempty (Wd (fun _ => True)) := ⟨⟨w1, trivial⟩⟩
        refine wp_region_steps (S := fun _ => True) [([0, 1, 4, 5, 6], [2, 3]), ([7], [])] _ (by kernel_rfl) (by kernel_rfl) rfl (by kernel_rfl) (fun _ d _ _ _ h => by cases d <;> exact h) trivial ?_
        simp only [segOps, List.filterMap_cons, List.filterMap_nil, List.getElem?_cons_zero, List.getElem?_cons_succ]
        refine wpSegs_cons ?_
        change wpQuiet _ _ _ _ (_ :: _ :: _ :: _ :: _ :: []) _
        repeat (go_big_quiet_step (fail))
        refine wpQuiet_nil ?_
        refine wpLoud_step rfl (fun K hK => ?_)
        go_simp
        refine hK _ _ trivial ?_
        clear hK
        refine wpLoud_step rfl (fun K hK => ?_)
        refine wp_append_own2 (.tmp 39) (.tmp 41) 345 rfl w.heap.size 327 1 8 eltU64 _ cs.length _ rfl (owns_ext (hown1.alloc _) (M := fun _ => False) (Ext.refl _ _).drew (fun _ _ _ h => h)) ⟨w1.heap.size, 0, none⟩ 1 1 [.int .u64 (decL (t.data.toList.drop k) : Int)] rfl rfl ?_ (by simp [Value.oneCell']) (by unfold maxLen; omega) (by omega) ?_ ?_
        · exact new_cells w1 [.int .u64 (decL (t.data.toList.drop k) : Int)] 327
        · show w.heap.size ≤ (w1.alloc _).heap.size
          simp; omega
        · intro v' w' hown' hg'
          refine hK _ _ trivial ?_
          clear hK
          refine wpLoud_nil ?_
          refine wpSegs_cons ?_
          change wpQuiet _ _ _ _ (_ :: []) _
          obtain ⟨a9, n9, cap9, rfl⟩ : ∃ a n c, v' = .slice a n c := by
            rcases hown'.2 with ⟨rfl, _⟩ | ⟨g9, c9, _, rfl, _⟩
            · exact ⟨_, _, _, rfl⟩
            · exact ⟨_, _, _, rfl⟩
          simp only [Act.put, List.setIfInBounds_toArray, List.set_cons_succ, List.set_cons_zero]
          repeat (go_big_quiet_step (fail))
          refine wpQuiet_nil ?_
          refine wpLoud_nil ?_
          refine wpSegs_nil ?_
          have hlt1 := hown1.lt
          have hx2 := hg'.ext ((HX1.out.alloc (.cells #[.int .u64 (decL (t.data.toList.drop k) : Int)] 327)).drew) (fun b hb hlt => by have := (hlt1 b hb).1; omega)
          have hsz2 := hg'.by_.size
          have HX2 := Lib.hid hx2
          have HO2 := Lib.hid hown'
          clear hown' hg' hx2 ne
          go_wp2_with fail
          go_roundg (t.extract 0 k).size
          case measure => rw [HPS.out]; omega
          case rel =>
            refine ⟨t.extract 0 k, cs ++ [decL (t.data.toList.drop k)], by simp, rfl, by rw [HPS.out]; omega, Lib.hid (by rw [HPP.out]; exact HST.out.1), HX2.out |> Lib.hid, ?_, ?_, Lib.hid ?_⟩
            · have : (w1.alloc (.cells #[.int .u64 (decL (t.data.toList.drop k) : Int)] 327)).drew.heap.size ≤ w'.heap.size := hsz2
              have h3 : (w1.alloc (.cells #[.int .u64 (decL (t.data.toList.drop k) : Int)] 327)).drew.heap.size = w1.heap.size + 1 := by show (w1.alloc _).heap.size = _; simp
              omega
            · have := HST.out.1.2.2.2
              rw [List.length_take] at this
              omega
            · rw [List.length_append, List.map_append]; exact HO2.out
      · have t0 : (t.size : Int) ≤ 0 := by omega
        have ht1 : t.data.toList = [] := List.eq_nil_of_length_eq_zero (by omega)
        have hval : decL s.data.toList = valD cs := by
          have := HI.out.1
          rw [ht1] at this
          rw [this]; rfl
        have hall := HI.out.2.2.1
        have hsl := slU_owned HO.out (u := d64U cs) (rep_d64.2 rfl)
        have HC := Lib.hid (carried_any wr hsl (fun k => by
          by_cases hk : k < cs.length
          · have := hall cs[k] (List.getElem_mem hk)
            have e : cs.getD k 0 = cs[k] := by simp [hk]
            unfold base9 at this
            omega
          · have e : cs.getD k 0 = 0 := by simp [List.getD, List.getElem?_eq_none (by omega : cs.length ≤ k)]
            omega) (by omega))
        have HLL := Lib.hid (limbs_len cs hall)
        have HLA := Lib.hid (fun d hd => Nat.lt_of_lt_of_le (limbs_all (valD cs) d hd) (by decide : base9 ≤ 4294967296))
        have HV := Lib.hid hval
        have HX1 := HX
        obtain ⟨a9, cap9, rfl, _⟩ := hsl.shape
        clear hval hall ht1 hsl HI htl HO
        go_wp2_with fail
        refine HC.out.mono ?_
        rintro e w5 ⟨hx5, v5, rfl, hsl5⟩
        have HR := Lib.hid (row_any64 w5 hsl5 HLA.out (Nat.le_trans HLL.out (by omega)))
        obtain ⟨a8, cap8, rfl, _⟩ := hsl5.shape
        have HX5 := Lib.hid (HX1.out.trans' hx5)
        clear hsl5 hx5 HC
        go_wp2_with fail
        refine HR.out.mono ?_
        rintro e w6 ⟨hx6, v6, rfl, hsl6⟩
        obtain ⟨a7, cap7, rfl, _⟩ := hsl6.shape
        have hsl7 := hsl6.mono (D' := fun b => w.heap.size ≤ b) (fun b hb _ => Nat.le_trans HX5.out.size hb)
        rw [← HV.out] at hsl7
        have HS7 := Lib.hid hsl7
        have HX6 := Lib.hid (HX5.out.trans' hx6)
        clear hsl6 hsl7 hx6 HR
        go_wp2_with fail
        go_ret2
        exact HFIN.out _ _ _ HX6.out HS7.out (by rw [HV.out]; rfl)

theorem natOf_any (s : ByteArray) (w : World) (hs : s.size ≤ 100000) : Calls Tryz.prog 198 #[.string s] w (OfPost w s.data.toList) := by
  cases h : isDec s.data.toList with
  | true => exact natOf_yes s w hs h
  | false => exact natOf_no s w hs h

end Go.Proofs.YtmcinpeplkkpfaaGreatDoor

namespace Go.Proofs.YtmcinpeplkkpfaaGreatDoor
open Go.RowKit
set_option linter.unusedVariables false
theorem zero_any (a : Option Addr) (n cap : Nat) (w : World) :
    Calls Tryz.prog 225 #[.agg #[.slice a n cap]] w fun e w' => e = .returned (.bool (n == 0)) ∧ Ext (fun _ => False) w w' := by
  go_enter Tryz.func225, Tryz.ntmps225
  go_wp2_with fail
  go_ret
  refine ⟨congrArg (fun b => Ending.returned (.bool b)) ?_, (Ext.refl _ _).alloc _⟩
  rw [Bool.eq_iff_iff]; simp

theorem out_any (a : Option Addr) (n cap : Nat) (b : Bool) (w : World) :
    Calls Tryz.prog 200 #[.agg #[.slice a n cap, .bool b]] w fun e w' => e = .returned (.agg #[.bool b, .slice a n cap]) ∧ Ext (fun _ => False) w w' := by
  go_enter Tryz.func200, Tryz.ntmps200
  go_wp2_with fail
  refine bodyPost_ret (v := .agg #[.bool b, .slice a n cap]) (by simp [results, Tryz.results200, go_sem]) rfl ⟨rfl, ?_⟩
  exact ((Ext.refl _ _).alloc _).alloc _

theorem SlU.setOther {D : Nat → Prop} {w : World} {v : Value} {n : Nat} {u : U} (h : SlU D w v n u) (p : Addr) (hp : ¬ D p.block) (x : Value) : SlU D (w.setCell p x) v n u :=
  h.move (fun b hD _ => Below.heap_setCell _ _ _ _ (fun e => hp (e ▸ hD))) (fun _ h _ => h)

theorem SlU.alloc {D : Nat → Prop} {w : World} {v : Value} {n : Nat} {u : U} (h : SlU D w v n u) (o : Obj) : SlU D (w.alloc o) v n u := h.ext (M := fun _ => False) ((Ext.refl _ _).alloc o) (fun _ _ h => h)

theorem SlU.drew {D : Nat → Prop} {w : World} {v : Value} {n : Nat} {u : U} (h : SlU D w v n u) : SlU D w.drew v n u := h.ext (M := fun _ => False) (Ext.refl _ _).drew (fun _ _ h => h)

set_option maxRecDepth 100000 in
set_option maxHeartbeats 1000000 in
theorem made_any {D : Nat → Prop} {ds : List Nat} {v : Value} (neg : Bool) (w : World) (h : SlU D w v ds.length (digsU ds)) (hds : ∀ d ∈ ds, d < base9) (hlen : ds.length ≤ 1000000000) :
    Calls Tryz.prog 199 #[v, .bool neg] w fun e w' => Ext (fun _ => False) w w' ∧ ∃ v', e = .returned (.agg #[v', .bool (neg && (limbs (valD ds)).length != 0)]) ∧ SlU (fun b => w.heap.size ≤ b) w' v' (limbs (valD ds)).length (digsU (limbs (valD ds))) := by
  have hgd : ∀ k, ds.getD k 0 ≤ 4294967295 := fun k => by
    by_cases hk : k < ds.length
    · have := hds ds[k] (List.getElem_mem hk)
      have e : ds.getD k 0 = ds[k] := by simp [hk]
      unfold base9 at this
      omega
    · have e : ds.getD k 0 = 0 := by simp [List.getD, List.getElem?_eq_none (by omega : ds.length ≤ k)]
      omega
  have HT := Lib.hid (fun o => trim_any (w.alloc o) (h.ext ((Ext.refl (fun _ => False) w).alloc o) (fun _ _ h => h)) hgd hlen (Nat.le_trans (limbs_len ds hds) (by omega)))
  obtain ⟨a, cap, rfl, _⟩ := h.shape
  generalize limbs (valD ds) = L at *
  have hx0 := (Ext.refl (fun _ => False) w).alloc (.cells #[.slice none 0 0, .bool false] 322)
  have hb0 := Blk.new w #[.slice none 0 0, .bool false] 322
  clear hgd hds h
  have hsz0 : (w.alloc (.cells #[.slice none 0 0, .bool false] 322)).heap.size = w.heap.size + 1 := by simp
  cases neg with
  | false =>
    go_enter Tryz.func199, Tryz.ntmps199
    go_wp2_with fail
    refine (HT.out _).mono ?_
    rintro e w1 ⟨hx1, v1, rfl, hs1⟩
    obtain ⟨a1, cap1, rfl, _⟩ := hs1.shape
    have hb1 := hb0.ext hx1 id
    have hX := hx0.trans' hx1
    have hS := Lib.hid (hs1.mono (D' := fun b => w.heap.size + 1 ≤ b) (fun b hb _ => by have : (w.alloc _).heap.size ≤ b := hb; rw [hsz0] at this; exact this))
    have c0 := hb1.cell 0
    have c1 := hb1.cell 1
    have f0 := hb1.frozen 0
    have f1 := hb1.frozen 1
    simp only [List.getElem?_toArray, List.getElem?_cons_zero, List.getElem?_cons_succ] at c0 c1
    have hlb := hb1.lt
    have HX := Lib.hid hX
    clear hx0 hb0 hx1 hs1 hX hsz0 HT
    go_wp2_with fail
    go_region
    go_wp2_with fail
    refine bodyPost_ret (v := .agg #[.slice a1 L.length cap1, .bool false]) (by simp [results, Tryz.results199, go_sem, *]) rfl ⟨?_, _, rfl, ?_⟩
    · exact (((HX.out.setCell (p := ⟨w.heap.size, 0, none⟩) (fun h => by simp at h) _).setCell (p := ⟨w.heap.size, 1, none⟩) (fun h => by simp at h) _).alloc _).drew
    · exact ((((hS.out.setOther ⟨w.heap.size, 0, none⟩ (by simp) _).setOther ⟨w.heap.size, 1, none⟩ (by simp) _).alloc _).drew).mono (fun b hb _ => by have : w.heap.size + 1 ≤ b := hb; omega)
  | true =>
    go_enter Tryz.func199, Tryz.ntmps199
    go_wp2_with fail
    refine (HT.out _).mono ?_
    rintro e w1 ⟨hx1, v1, rfl, hs1⟩
    obtain ⟨a1, cap1, rfl, _⟩ := hs1.shape
    have hb1 := hb0.ext hx1 id
    have hX := hx0.trans' hx1
    have hS := hs1.mono (D' := fun b => w.heap.size + 1 ≤ b) (fun b hb _ => by have : (w.alloc _).heap.size ≤ b := hb; rw [hsz0] at this; exact this)
    have hlb := hb1.lt
    clear hx0 hb0 hx1 hs1 hsz0 HT
    go_wp2_with fail
    have hb2 := hb1.alloc (.cells #[.slice a1 L.length cap1] 320)
    have hn2 := Blk.new w1 #[.slice a1 L.length cap1] 320
    have HX2 := Lib.hid (hX.alloc (.cells #[.slice a1 L.length cap1] 320))
    have HS2 := Lib.hid (hS.alloc (.cells #[.slice a1 L.length cap1] 320))
    clear hX hS hb1
    generalize w1.alloc (.cells #[.slice a1 L.length cap1] 320) = w2 at *
    generalize w1.heap.size = b1 at *
    haveI ne : Nonempty (Wd (fun x => Ext (fun _ => False) w2 x)) := ⟨⟨w2, Ext.refl _ _⟩⟩
    have q0 : ∀ x : Wd (fun x => Ext (fun _ => False) w2 x), x.w.cell? ⟨b1, 0, none⟩ = some (.slice a1 L.length cap1) := fun x => x.ok.cellSome (hn2.cell 0) id
    refine wp_region_steps (S := fun x => Ext (fun _ => False) w2 x) [([0, 1, 2, 3], [4]), ([5, 6, 7], [])] _ (by kernel_rfl) (by kernel_rfl) rfl (by kernel_rfl) (fun _ d _ _ _ h => by cases d <;> exact h) (Ext.refl _ _).drew ?_
    simp only [segOps, List.filterMap_cons, List.filterMap_nil, List.getElem?_cons_zero, List.getElem?_cons_succ]
    refine wpSegs_cons ?_
    change wpQuiet _ _ _ _ (_ :: _ :: _ :: _ :: []) _
    repeat (go_big_quiet_step (fail))
    refine wpQuiet_nil ?_
    refine wpLoud_step rfl (fun K hK => ?_)
    go_simp
    refine (zero_any a1 L.length cap1 _).mono ?_
    rintro e w3 ⟨rfl, hx3⟩
    have hx3' : Ext (fun _ => False) w2 w3 := ⟨hx3.os, hx3.tape, hx3.output, hx3.size, hx3.block⟩
    refine hK _ _ hx3' ?_
    clear hK hx3
    refine wpLoud_nil ?_
    refine wpSegs_cons ?_
    change wpQuiet _ _ _ _ (_ :: _ :: _ :: []) _
    have hbn : (!(L.length == 0)) = (L.length != 0) := rfl
    generalize (L.length == 0) = z at *
    have HBN := Lib.hid hbn
    clear hbn
    repeat (go_big_quiet_step (fail))
    refine wpQuiet_nil ?_
    refine wpLoud_nil ?_
    refine wpSegs_nil ?_
    have hb3 := hb2.ext hx3' id
    have c0 := hb3.cell 0
    have c1 := hb3.cell 1
    have f0 := hb3.frozen 0
    have f1 := hb3.frozen 1
    simp only [List.getElem?_toArray, List.getElem?_cons_zero, List.getElem?_cons_succ] at c0 c1
    have HX3 := Lib.hid (HX2.out.trans' hx3')
    have HS3 := Lib.hid (HS2.out.ext hx3' (fun _ _ h => h))
    clear q0 ne hx3'
    go_wp2_with fail
    rw [← HBN.out]
    have k0 := World.cell?_setCell_same
    refine bodyPost_ret (v := .agg #[.slice a1 L.length cap1, .bool (!z)]) (by simp [results, Tryz.results199, go_sem, *]) rfl ⟨?_, _, by rw [Bool.true_and], ?_⟩
    · exact (HX3.out.setCell (p := ⟨w.heap.size, 0, none⟩) (fun h => by simp at h) _).setCell (p := ⟨w.heap.size, 1, none⟩) (fun h => by simp at h) _
    · exact ((HS3.out.setOther ⟨w.heap.size, 0, none⟩ (by simp) _).setOther ⟨w.heap.size, 1, none⟩ (by simp) _).mono (fun b hb _ => by have : w.heap.size + 1 ≤ b := hb; omega)

def NumRes (base : Nat) (w : World) (b : Bool) (v : Value) : Option ZI → Prop
  | some z => b = z.neg ∧ SlU (fun b => base ≤ b) w v z.ds.length (digsU z.ds)
  | none => b = false ∧ v = .slice none 0 0

def NumPost (w : World) (o : Option ZI) (e : Ending) (w' : World) : Prop :=
  Ext (fun _ => False) w w' ∧ ∃ b v, e = .returned (.tuple #[.agg #[.bool b, v], .bool o.isSome]) ∧ NumRes w.heap.size w' b v o

theorem NumRes.sl {base : Nat} {w : World} {b : Bool} {v : Value} {o : Option ZI} (h : NumRes base w b v o) : ∃ a n c, v = .slice a n c := by
  cases o with
  | none => exact ⟨_, _, _, h.2⟩
  | some z => obtain ⟨a3, cap3, h, _⟩ := h.2.shape; exact ⟨_, _, _, h⟩

theorem NumRes.ext {base : Nat} {w w' : World} {M : Nat → Prop} {b : Bool} {v : Value} {o : Option ZI} (h : NumRes base w b v o) (hx : Ext M w w') (hm : ∀ b, base ≤ b → ¬ M b) : NumRes base w' b v o := by
  cases o with
  | none => exact h
  | some z => exact ⟨h.1, h.2.ext hx hm⟩

theorem NumRes.mono {base base' : Nat} {w : World} {b : Bool} {v : Value} {o : Option ZI} (h : NumRes base w b v o) (hb : base' ≤ base) : NumRes base' w b v o := by
  cases o with
  | none => exact h
  | some z => exact ⟨h.1, h.2.mono fun _ h _ => Nat.le_trans hb h⟩

theorem NumRes.setOther {base : Nat} {w : World} {b : Bool} {v : Value} {o : Option ZI} (h : NumRes base w b v o) (p : Addr) (hp : p.block < base) (x : Value) : NumRes base (w.setCell p x) b v o := by
  cases o with
  | none => exact h
  | some z => exact ⟨h.1, h.2.setOther p (by omega) x⟩

def cutL (l : List UInt8) : Bool × List UInt8 := match l with | 45 :: r => (true, r) | _ => (false, l)

theorem cut_law (l : List UInt8) : Lib.trimPrefix l [45] = (cutL l).2 ∧ Lib.hasPrefix l [45] = (cutL l).1 := by
  unfold Lib.trimPrefix Lib.hasPrefix
  match l with
  | [] => exact ⟨rfl, rfl⟩
  | c :: r =>
    by_cases h : c = 45
    · subst h; exact ⟨rfl, rfl⟩
    · have e : cutL (c :: r) = (false, c :: r) := by
        unfold cutL
        split
        · rename_i h'; cases h'; exact absurd rfl h
        · rfl
      have e2 : List.isPrefixOf [45] (c :: r) = false := by simp [List.isPrefixOf]; exact fun h' => h h'.symm
      rw [e, e2]; exact ⟨rfl, rfl⟩

theorem numL_cut (l : List UInt8) : numL l = if isDec (cutL l).2 && (!(cutL l).1 || decL (cutL l).2 != 0) then some ⟨(cutL l).1, limbs (decL (cutL l).2)⟩ else none := by
  unfold numL cutL
  split
  · simp
  · simp

theorem cutL_len (l : List UInt8) : (cutL l).2.length ≤ l.length := by
  unfold cutL
  split
  · simp
  · exact Nat.le_refl _

theorem limbs_dec : ∀ (r : List UInt8), isDec r = true → (limbs (decL r)).length ≤ r.length := by
  intro r h
  have hd := ((isDec_iff r).1 h).2.1
  have hlt := decL_lt r hd
  have hle : ∀ (k n : Nat), n < 10 ^ k → (limbs n).length ≤ k := by
    intro k
    induction k with
    | zero => intro n hn; obtain rfl : n = 0 := by simpa using hn
              exact Nat.le_refl _
    | succ k ih =>
      intro n hn
      by_cases h0 : n = 0
      · subst h0; simp [limbs_zero]
      · rw [limbs_pos h0, List.length_cons]
        have : n / base9 < 10 ^ k := by
          rw [Nat.pow_succ] at hn
          exact Nat.div_lt_of_lt_mul (Nat.lt_of_lt_of_le hn (by rw [Nat.mul_comm]; exact Nat.mul_le_mul_right _ (by decide)))
        exact Nat.succ_le_succ (ih _ this)
  exact hle _ _ hlt

theorem limbs_len0 (n : Nat) : ((limbs n).length == 0) = (n == 0) := by
  by_cases h : n = 0
  · subst h; rfl
  · rw [limbs_pos h]; simp [h]

set_option maxRecDepth 100000 in
set_option maxHeartbeats 1000000 in
theorem numParse_any (s : ByteArray) (w : World) (hs : s.size ≤ 100000) : Calls Tryz.prog 163 #[.string s] w (NumPost w (numS s)) := by
  have hl : s.data.toList.length = s.size := by rw [Lib.size_eq]
  obtain ⟨hc1, hc2⟩ := cut_law s.data.toList
  have hcl := cutL_len s.data.toList
  have hn : numS s = numL s.data.toList := rfl
  rw [hn, numL_cut]
  have HC := Lib.hid (fun w => Tryz.strings_CutPrefix s ⟨#[45]⟩ w)
  have e45 : (⟨#[45]⟩ : ByteArray).data.toList = [45] := rfl
  rw [e45, hc1, hc2] at HC
  generalize cutL s.data.toList = cut at *
  obtain ⟨neg, r⟩ := cut
  simp only at hcl HC ⊢
  clear hc1 hc2 hn e45
  have hrs : (⟨r.toArray⟩ : ByteArray).size = r.length := by rw [Lib.size_eq]
  have hrd : (⟨r.toArray⟩ : ByteArray).data.toList = r := by simp
  have HO := Lib.hid (fun w => natOf_any ⟨r.toArray⟩ w (by omega))
  rw [hrd] at HO
  generalize (⟨r.toArray⟩ : ByteArray) = rs at *
  have hx0 := (Ext.refl (fun _ => False) w).alloc (.cells #[.bool false, .slice none 0 0] 38)
  have hb0 := Blk.new w #[.bool false, .slice none 0 0] 38
  have hsz0 : (w.alloc (.cells #[.bool false, .slice none 0 0] 38)).heap.size = w.heap.size + 1 := by simp
  have hll : r.length ≤ 100000 := by omega
  clear hl hcl hrs hrd
  obtain ⟨o, ho⟩ : ∃ o, o = (if isDec r && (!neg || decL r != 0) then some (ZI.mk neg (limbs (decL r))) else none) := ⟨_, rfl⟩
  rw [← ho]
  cases hd : isDec r with
  | false =>
    have HD := Lib.hid hd
    rw [hd, Bool.false_and, if_neg (by decide)] at ho
    subst ho
    clear hd
    go_enter Tryz.func163, Tryz.ntmps163
    go_wp2_with fail
    refine (HC.out _).mono ?_
    rintro e w1 ⟨rfl, rfl⟩
    go_wp2_with fail
    refine (HO.out _).mono ?_
    rintro e w2 ⟨hx2, v2, rfl, hv2⟩
    rw [HD.out] at hv2 ⊢
    rw [if_neg (by decide)] at hv2
    subst hv2
    have hb2 := hb0.ext hx2 id
    have c0 := hb2.cell 0
    have c1 := hb2.cell 1
    have f0 := hb2.frozen 0
    have f1 := hb2.frozen 1
    simp only [List.getElem?_toArray, List.getElem?_cons_zero, List.getElem?_cons_succ] at c0 c1
    have HX := Lib.hid (hx0.trans' hx2)
    clear hx0 hx2 hb0 hsz0
    go_wp2_with fail
    exact bodyPost_ret (v := .tuple #[.agg #[.bool false, .slice none 0 0], .bool false]) (by simp [results, Tryz.results163, go_sem, *]) rfl ⟨(HX.out.setCell (p := ⟨w.heap.size, 0, none⟩) (fun h => by simp at h) _).setCell (p := ⟨w.heap.size, 1, none⟩) (fun h => by simp at h) _, false, .slice none 0 0, rfl, rfl, rfl⟩
  | true =>
    have hlim := Lib.hid (fun (r : List UInt8) (h : isDec r = true) => limbs_dec r h)
    have HOO := Lib.hid ho
    have HDD := Lib.hid hd
    clear ho hd
    go_enter Tryz.func163, Tryz.ntmps163
    go_wp2_with fail
    refine (HC.out _).mono ?_
    rintro e w1 ⟨rfl, rfl⟩
    go_wp2_with fail
    refine (HO.out _).mono ?_
    rintro e w2 ⟨hx2, v2, rfl, hv2⟩
    have hd := HDD.out
    rw [if_pos hd] at hv2
    rw [hd]
    have hb2 := hb0.ext hx2 id
    have c0 := hb2.cell 0
    have c1 := hb2.cell 1
    have f0 := hb2.frozen 0
    have f1 := hb2.frozen 1
    simp only [List.getElem?_toArray, List.getElem?_cons_zero, List.getElem?_cons_succ] at c0 c1
    have HX := Lib.hid (hx0.trans' hx2)
    have hs2 := hv2.mono (D' := fun b => w.heap.size + 1 ≤ b) (fun b hb _ => by have : (w.alloc _).heap.size ≤ b := hb; rw [hsz0] at this; exact this)
    obtain ⟨a2, cap2, rfl, _⟩ := hs2.shape
    have HM := Lib.hid (fun neg => made_any neg w2 hs2 (limbs_all _) (Nat.le_trans (hlim.out _ hd) (by omega)))
    rw [limbs_val] at HM
    have HS2 := Lib.hid hs2
    have HL0 := Lib.hid (limbs_len0 (decL r))
    clear hx0 hx2 hb0 hsz0 hv2 hs2 hlim hd
    have hlen : ((limbs (decL r)).length == 0) = (decL r == 0) := HL0.out
    generalize hL : limbs (decL r) = L at *
    have HLL := Lib.hid hL
    clear hL
    have ho := HOO.out
    rw [HDD.out, Bool.true_and] at ho
    clear HOO
    cases neg with
    | false =>
      rw [if_pos (by simp)] at ho
      subst ho
      go_wp2_with fail
      refine (HM.out false).mono ?_
      rintro e w3 ⟨hx3, v3, rfl, hs3⟩
      obtain ⟨a3, cap3, rfl, _⟩ := hs3.shape
      rw [Bool.false_and]
      go_wp2_with fail
      refine (out_any a3 L.length cap3 false _).mono ?_
      rintro e w4 ⟨rfl, hx4⟩
      have hb4 := (hb2.ext hx3 id).ext hx4 id
      have d0 := hb4.cell 0
      have d1 := hb4.cell 1
      have k0 := hb4.frozen 0
      have k1 := hb4.frozen 1
      simp only [List.getElem?_toArray, List.getElem?_cons_zero, List.getElem?_cons_succ] at d0 d1
      have HX4 := Lib.hid ((HX.out.trans' hx3).trans' hx4)
      have HS4 := Lib.hid ((hs3.ext hx4 (fun _ _ h => h)).mono (D' := fun b => w.heap.size + 1 ≤ b) (fun b hb _ => by have : w2.heap.size ≤ b := hb; have := hb2.lt; omega))
      have hbl := hb2.lt
      clear c0 c1 f0 f1 hx3 hs3 hx4 hb2 hb4
      go_wp2_with fail
      refine bodyPost_ret (v := .tuple #[.agg #[.bool false, .slice a3 L.length cap3], .bool true]) (by simp [results, Tryz.results163, go_sem, *]) rfl ⟨(HX4.out.setCell (p := ⟨w.heap.size, 0, none⟩) (fun h => by simp at h) _).setCell (p := ⟨w.heap.size, 1, none⟩) (fun h => by simp at h) _, false, .slice a3 L.length cap3, rfl, rfl, ?_⟩
      exact ((HS4.out.setOther ⟨w.heap.size, 0, none⟩ (by simp) _).setOther ⟨w.heap.size, 1, none⟩ (by simp) _).mono (fun b hb _ => by have : w.heap.size + 1 ≤ b := hb; omega)
    | true =>
      by_cases hz : decL r = 0
      · rw [if_neg (by simp [hz])] at ho
        subst ho
        have hl0 : L.length = 0 := by rw [hz] at hlen; simpa using hlen
        have hl1 : ((L.length : Int) == 0) = true := by rw [hl0]; rfl
        have hl2 : (L.length : Int) = 0 := by omega
        clear hlen hz
        go_wp2_with fail
        exact bodyPost_ret (v := .tuple #[.agg #[.bool false, .slice none 0 0], .bool false]) (by simp [results, Tryz.results163, go_sem, *]) rfl ⟨(HX.out.setCell (p := ⟨w.heap.size, 0, none⟩) (fun h => by simp at h) _).setCell (p := ⟨w.heap.size, 1, none⟩) (fun h => by simp at h) _, false, .slice none 0 0, rfl, rfl, rfl⟩
      · rw [if_pos (by simp [hz])] at ho
        subst ho
        have hl0 : L.length ≠ 0 := by intro h; rw [h] at hlen; simp at hlen; exact hz (by omega)
        have hl1 : ((L.length : Int) == 0) = false := by simp; exact fun h => hl0 (by rw [h]; rfl)
        have hl2 : decide ((L.length : Int) = 0) = false := by simp; exact fun h => hl0 (by rw [h]; rfl)
        have hl3 : (L.length != 0) = true := by simpa using hl0
        have HL3 := Lib.hid hl3
        clear hlen hz hl0 hl3
        go_wp2_with fail
        refine (HM.out true).mono ?_
        rintro e w3 ⟨hx3, v3, rfl, hs3⟩
        obtain ⟨a3, cap3, rfl, _⟩ := hs3.shape
        rw [Bool.true_and, HL3.out]
        go_wp2_with fail
        refine (out_any a3 L.length cap3 true _).mono ?_
        rintro e w4 ⟨rfl, hx4⟩
        have hb4 := (hb2.ext hx3 id).ext hx4 id
        have d0 := hb4.cell 0
        have d1 := hb4.cell 1
        have k0 := hb4.frozen 0
        have k1 := hb4.frozen 1
        simp only [List.getElem?_toArray, List.getElem?_cons_zero, List.getElem?_cons_succ] at d0 d1
        have HX4 := Lib.hid ((HX.out.trans' hx3).trans' hx4)
        have HS4 := Lib.hid ((hs3.ext hx4 (fun _ _ h => h)).mono (D' := fun b => w.heap.size + 1 ≤ b) (fun b hb _ => by have : w2.heap.size ≤ b := hb; have := hb2.lt; omega))
        have hbl := hb2.lt
        clear c0 c1 f0 f1 hx3 hs3 hx4 hb2 hb4
        go_wp2_with fail
        refine bodyPost_ret (v := .tuple #[.agg #[.bool true, .slice a3 L.length cap3], .bool true]) (by simp [results, Tryz.results163, go_sem, *]) rfl ⟨(HX4.out.setCell (p := ⟨w.heap.size, 0, none⟩) (fun h => by simp at h) _).setCell (p := ⟨w.heap.size, 1, none⟩) (fun h => by simp at h) _, true, .slice a3 L.length cap3, rfl, rfl, ?_⟩
        exact ((HS4.out.setOther ⟨w.heap.size, 0, none⟩ (by simp) _).setOther ⟨w.heap.size, 1, none⟩ (by simp) _).mono (fun b hb _ => by have : w.heap.size + 1 ≤ b := hb; omega)

end Go.Proofs.YtmcinpeplkkpfaaGreatDoor

namespace Go.Proofs.YtmcinpeplkkpfaaGreatDoor
open Go.RowKit
set_option linter.unusedVariables false
theorem RdPost.pre {fb : Nat} {shp : List Value → Prop} {mk : List Value → Value} {α : Type} {enc : α → U} {res : RR α} {w w1 : World} {e : Ending} {w' : World} (h : RdPost fb shp mk enc res w1 e w') (hx : Ext (fun _ => False) w w1) : RdPost fb shp mk enc res w e w' := by
  obtain ⟨hx2, xs, he, hs, hr⟩ := h
  refine ⟨(hx.mono (fun _ _ h => h.elim)).trans' hx2, xs, he, hs, ?_⟩
  cases res with
  | error q => exact hr
  | ok a => exact ⟨hr.1, hr.2.mono fun b hb _ => Nat.le_trans hx.size hb⟩

set_option maxRecDepth 100000 in
theorem allPm_any {B : Nat} (g : Nat) {α : Type} (enc : α → U) (lu : List α → U) (f : ByteArray → Bool → Int → F → RR α) (wd : ByteArray) (kv : Value) (r : Bool) (p : Int) (fb : Nat) (k : F) (w : World)
    (hB : B ≤ w.heap.size) (hfb : B ≤ fb) (hF : Fst w fb false 0) (hk : Sl (· < B) w kv k) (hks : k.size ≤ 262144) (hlu : LU enc lu) (hread : ReadsKids B fb g (shpN 10) mkAgg enc f k) :
    Calls Tryz.prog 98 #[nodeV wd kv r p fb, .func (.func g) #[] #[]] w (RdPost fb shpSl mkOne (fun l => .sl l.length (lu l) .nil) (rowOf r p (eachS f k)) w) := by
  obtain ⟨a, cap, rfl, h1, h2⟩ := hk.shape
  have hF1 := fun o => Fst.ext (M := fun _ => False) hF ((Ext.refl _ w).alloc o) id
  have hx1 := fun o => (Ext.refl (fun _ => False) w).alloc o
  cases r with
  | false =>
    unfold nodeV
    go_enter Tryz.func98, Tryz.ntmps98
    go_wp2_with fail
    refine (fault_no wd _ false p fb 0 _ ⟨_, _, _, rfl⟩ (hF1 _)).mono ?_
    rintro e w1 ⟨rfl, hx, hF2⟩
    go_wp2_with fail
    go_ret
    exact ⟨((Ext.refl (· = fb) w).alloc _).trans' hx, [.slice none 0 0], rfl, ⟨_, _, _, rfl⟩, hF2⟩
  | true =>
    have hrest := fun o => restPm_any (B := B) g enc lu f 0 wd (.slice a k.len cap) true p fb k (w.alloc o) (by simp; omega) hfb (hF1 o) (hk.ext (hx1 o) (fun _ _ h => h)) hks (by omega) hlu hread
    have e0 : k.dropN 0 = k := by cases k <;> rfl
    simp only [e0] at hrest
    unfold nodeV at *
    go_enter Tryz.func98, Tryz.ntmps98
    go_wp2_with fail
    refine (hrest _).mono ?_
    intro e w1 h
    have h2 := h.pre (hx1 _)
    obtain ⟨hx, xs, rfl, ⟨a5, n5, cap5, rfl⟩, hres⟩ := h2
    simp only [mkOne]
    have HX := Lib.hid hx
    have HR := Lib.hid hres
    clear hrest h hx hres hF1 hx1
    go_wp2_with fail
    go_ret
    exact ⟨HX.out, [.slice a5 n5 cap5], rfl, ⟨_, _, _, rfl⟩, HR.out⟩

end Go.Proofs.YtmcinpeplkkpfaaGreatDoor

namespace Go.Proofs.YtmcinpeplkkpfaaGreatDoor
open Go.RowKit
set_option linter.unusedVariables false
def encStr (s : ByteArray) : U := .str s .nil

def encZi (z : ZI) : U := z.u .nil

def encTm (t : Tm) : U := t.u .nil

def encAo (a : Ao) : U := a.u .nil

theorem nodeName_any {B : Nat} (wd : ByteArray) (kv : Value) (r : Bool) (p : Int) (fb : Nat) (k : F) (w : World) (hF : Fst w fb false 0) (hk : Sl (· < B) w kv k) (hs : wd.size ≤ maxLen) :
    Calls Tryz.prog 39 #[nodeV wd kv r p fb] w (RdPost fb shpStr mkOne encStr (nameS wd r p) w) := by
  obtain ⟨a, cap, rfl, h1, h2⟩ := hk.shape
  have hF1 := fun o => Fst.ext (M := fun _ => False) hF ((Ext.refl _ w).alloc o) id
  have hN := NodeIn.new w wd (.slice a k.len cap) r p fb
  have hx1 := (Ext.refl (fun _ => False) w).alloc (.cells #[.string wd, .slice a k.len cap, .bool r, .int .i64 p, .pointer (some ⟨fb, 0, none⟩)] 57)
  unfold nodeV
  cases r with
  | true =>
    go_enter Tryz.func39, Tryz.ntmps39
    go_wp2_with fail
    refine (fault_no wd _ true p fb 0 _ ⟨_, _, _, rfl⟩ (hF1 _)).mono ?_
    rintro e w1 ⟨rfl, hx, hF2⟩
    go_wp2_with fail
    go_ret
    exact ⟨((Ext.refl (· = fb) w).alloc _).trans' hx, [.string ⟨#[]⟩], rfl, ⟨_, rfl⟩, hF2⟩
  | false =>
    cases hn : isName wd with
    | true =>
      have e : nameS wd false p = .ok wd := by unfold nameS; rw [hn]; rfl
      rw [e]
      have HN := Lib.hid hn
      clear hn e
      go_enter Tryz.func39, Tryz.ntmps39
      go_wp2_with fail
      refine (name_any wd _).mono ?_
      rintro e w1 ⟨rfl, hx⟩
      rw [HN.out]
      have hN1 := hN.ext hx id
      obtain ⟨c0, c1, c2, c3, c4⟩ := hN1.cells
      have HX := Lib.hid (hx1.trans' hx)
      have HF := Lib.hid (Fst.ext (hF1 _) hx id)
      clear hx hN hx1 hF1 hF hN1
      go_wp2_with fail
      go_ret
      exact ⟨HX.out.mono (fun _ _ h => h.elim), [.string wd], rfl, ⟨_, rfl⟩, HF.out, _, rfl, hs, rfl⟩
    | false =>
      have e : nameS wd false p = .error p := by unfold nameS; rw [hn]; rfl
      rw [e]
      have HN := Lib.hid hn
      clear hn e
      go_enter Tryz.func39, Tryz.ntmps39
      go_wp2_with fail
      refine (name_any wd _).mono ?_
      rintro e w1 ⟨rfl, hx⟩
      rw [HN.out]
      have hN1 := hN.ext hx id
      obtain ⟨c0, c1, c2, c3, c4⟩ := hN1.cells
      have HX := Lib.hid (hx1.trans' hx)
      have hF2 := Fst.ext (hF1 _) hx id
      clear hx hN hx1 hF1 hF hN1
      go_wp2_with fail
      refine (fault_no wd _ false p fb 0 _ ⟨_, _, _, rfl⟩ hF2).mono ?_
      rintro e w2 ⟨rfl, hx2, hF3⟩
      go_wp2_with fail
      go_ret
      exact ⟨(HX.out.mono (fun _ _ h => h.elim)).trans' hx2, [.string ⟨#[]⟩], rfl, ⟨_, rfl⟩, hF3⟩

set_option maxRecDepth 100000 in
theorem number_any {B : Nat} (wd : ByteArray) (kv : Value) (r : Bool) (p : Int) (fb : Nat) (k : F) (w : World) (hk : Sl (· < B) w kv k) :
    Calls Tryz.prog 121 #[nodeV wd kv r p fb] w (NumPost w (numberS wd r)) := by
  obtain ⟨a, cap, rfl, h1, h2⟩ := hk.shape
  have hx1 := (Ext.refl (fun _ => False) w).alloc (.cells #[.string wd, .slice a k.len cap, .bool r, .int .i64 p, .pointer (some ⟨fb, 0, none⟩)] 57)
  have hx2 := hx1.alloc (.cells #[.bool false, .slice none 0 0] 38)
  have hb2 := Blk.new (w.alloc (.cells #[.string wd, .slice a k.len cap, .bool r, .int .i64 p, .pointer (some ⟨fb, 0, none⟩)] 57)) #[.bool false, .slice none 0 0] 38
  have hz : (w.alloc (.cells #[.string wd, .slice a k.len cap, .bool r, .int .i64 p, .pointer (some ⟨fb, 0, none⟩)] 57)).heap.size = w.heap.size + 1 := by simp
  rw [hz] at hb2
  unfold nodeV
  by_cases hno : r = true ∨ 400 < wd.size
  · have e : numberS wd r = none := by unfold numberS; rw [if_pos (by simpa using hno)]
    rw [e]
    have fin : ∀ w', Ext (fun _ => False) w w' → NumPost w none (.returned (.tuple #[.agg #[.bool false, .slice none 0 0], .bool false])) w' := fun w' h => ⟨h, false, .slice none 0 0, rfl, rfl, rfl⟩
    have FIN := Lib.hid fin
    clear fin e
    cases r with
    | true =>
      clear hno
      go_enter Tryz.func121, Tryz.ntmps121
      go_wp2_with fail
      refine bodyPost_ret (v := .tuple #[.agg #[.bool false, .slice none 0 0], .bool false]) (by simp [results, Tryz.results121, go_sem]) rfl (FIN.out _ ?_)
      exact hx1.alloc _
    | false =>
      have hlt : (400 : Int) < (wd.size : Int) := by rcases hno with h | h; cases h; omega
      clear hno
      go_enter Tryz.func121, Tryz.ntmps121
      go_wp2_with fail
      refine bodyPost_ret (v := .tuple #[.agg #[.bool false, .slice none 0 0], .bool false]) (by simp [results, Tryz.results121, go_sem]) rfl (FIN.out _ ?_)
      exact hx1.alloc _
  · have e : numberS wd r = numS wd := by
      unfold numberS; rw [if_neg (by simpa using hno)]
    rw [e]
    obtain rfl : r = false := by cases r <;> simp_all
    have hlt : (wd.size : Int) ≤ 400 := by have : ¬ 400 < wd.size := fun h => hno (.inr h); omega
    have hld : decide ((400 : Int) < (wd.size : Int)) = false := by simp; omega
    have HP := Lib.hid (fun w => numParse_any wd w (by omega))
    generalize numS wd = o at *
    clear hno e
    go_enter Tryz.func121, Tryz.ntmps121
    go_wp2_with fail
    refine (HP.out _).mono ?_
    rintro e w3 ⟨hx3, b, v, rfl, hres⟩
    obtain ⟨a3, n3, cap3, rfl⟩ := hres.sl
    have hb3 := hb2.ext hx3 id
    have c0 := hb3.cell 0
    have c1 := hb3.cell 1
    have f0 := hb3.frozen 0
    have f1 := hb3.frozen 1
    simp only [List.getElem?_toArray, List.getElem?_cons_zero, List.getElem?_cons_succ] at c0 c1
    have HX3 := Lib.hid (hx2.trans' hx3)
    have HR := Lib.hid hres
    have hsz : w.heap.size + 2 ≤ ((w.alloc (.cells #[.string wd, .slice a k.len cap, .bool false, .int .i64 p, .pointer (some ⟨fb, 0, none⟩)] 57)).alloc (.cells #[.bool false, .slice none 0 0] 38)).heap.size := by simp
    have HSZ := Lib.hid hsz
    obtain ⟨os, hos⟩ : ∃ os, os = o.isSome := ⟨_, rfl⟩
    rw [← hos]
    have HOS := Lib.hid hos
    clear hx2 hx3 hb2 hb3 hx1 hz HP hres hsz hos
    go_wp2_with fail
    refine bodyPost_ret (v := .tuple #[.agg #[.bool b, .slice a3 n3 cap3], .bool os]) (by simp [results, Tryz.results121, go_sem, *]) rfl ⟨(HX3.out.setCell (p := ⟨w.heap.size + 1, 0, none⟩) (fun h => by have : w.heap.size + 1 < w.heap.size := h; omega) _).setCell (p := ⟨w.heap.size + 1, 1, none⟩) (fun h => by have : w.heap.size + 1 < w.heap.size := h; omega) _, b, .slice a3 n3 cap3, by rw [HOS.out], ?_⟩
    exact (((HR.out.mono HSZ.out).setOther ⟨w.heap.size + 1, 0, none⟩ (by simp) _).setOther ⟨w.heap.size + 1, 1, none⟩ (by simp) _).mono (by omega)

theorem NumPost.sl {w : World} {o : Option ZI} {e : Ending} {w' : World} (h : NumPost w o e w') : ∃ b a n cap, e = .returned (.tuple #[.agg #[.bool b, .slice a n cap], .bool o.isSome]) ∧ Ext (fun _ => False) w w' ∧ NumRes w.heap.size w' b (.slice a n cap) o := by
  obtain ⟨hx, b, v, rfl, hres⟩ := h
  obtain ⟨a3, n3, cap3, rfl⟩ := hres.sl
  exact ⟨b, a3, n3, cap3, rfl, hx, hres⟩

theorem rep_zi {D : Nat → Prop} {w : World} {z : ZI} {v : Value} (h : SlU D w v z.ds.length (digsU z.ds)) : Rep D w (encZi z) [.bool z.neg, v] := by
  obtain ⟨ys, h1, h2⟩ := h
  exact ⟨_, rfl, v, ys, [], rfl, h1, h2, rfl⟩

end Go.Proofs.YtmcinpeplkkpfaaGreatDoor

namespace Go.Proofs.YtmcinpeplkkpfaaGreatDoor
open Go.RowKit
set_option linter.unusedVariables false
theorem NumRes.rep {base : Nat} {w : World} {b : Bool} {v : Value} {z : ZI} (h : NumRes base w b v (some z)) : Rep (fun b => base ≤ b) w (encZi z) [.bool b, v] := by
  obtain ⟨rfl, h⟩ := h
  exact rep_zi h

theorem NumRes.cells {base : Nat} {w : World} {b : Bool} {v : Value} {z : ZI} (h : NumRes base w b v (some z)) {u : U} {xs : List Value} (hu : Rep (fun b => base ≤ b) w u xs) : Rep (fun b => base ≤ b) w (z.u u) (.bool b :: v :: xs) := by
  obtain ⟨rfl, ys, h1, h2⟩ := h
  exact ⟨_, rfl, v, ys, _, rfl, h1, h2, hu⟩

theorem zero_cells {D : Nat → Prop} {w : World} {u : U} {xs : List Value} (hu : Rep D w u xs) : Rep D w (ZI.zero.u u) (.bool false :: .slice none 0 0 :: xs) :=
  ⟨_, rfl, _, [], _, rfl, rfl, ⟨none, 0, rfl, Nat.le_refl _, Nat.zero_le _, fun _ => rfl, .inl rfl⟩, hu⟩

set_option maxRecDepth 100000 in
set_option maxHeartbeats 1000000 in
theorem whole_any {B : Nat} (wd : ByteArray) (kv : Value) (r : Bool) (p : Int) (fb : Nat) (k : F) (w : World) (hF : Fst w fb false 0) (hk : Sl (· < B) w kv k) :
    Calls Tryz.prog 74 #[nodeV wd kv r p fb] w (RdPost fb (shpN 2) mkAgg encZi (wholeS wd r p) w) := by
  obtain ⟨a, cap, rfl, h1, h2⟩ := hk.shape
  have hx1 := (Ext.refl (fun _ => False) w).alloc (.cells #[.string wd, .slice a k.len cap, .bool r, .int .i64 p, .pointer (some ⟨fb, 0, none⟩)] 57)
  have hx2 := hx1.alloc (.cells #[.bool false, .slice none 0 0] 38)
  have hb2 := Blk.new (w.alloc (.cells #[.string wd, .slice a k.len cap, .bool r, .int .i64 p, .pointer (some ⟨fb, 0, none⟩)] 57)) #[.bool false, .slice none 0 0] 38
  have hn2 := (NodeIn.new w wd (.slice a k.len cap) r p fb).alloc (.cells #[.bool false, .slice none 0 0] 38)
  have hz : (w.alloc (.cells #[.string wd, .slice a k.len cap, .bool r, .int .i64 p, .pointer (some ⟨fb, 0, none⟩)] 57)).heap.size = w.heap.size + 1 := by simp
  have hz2 : ((w.alloc (.cells #[.string wd, .slice a k.len cap, .bool r, .int .i64 p, .pointer (some ⟨fb, 0, none⟩)] 57)).alloc (.cells #[.bool false, .slice none 0 0] 38)).heap.size = w.heap.size + 2 := by simp
  rw [hz] at hb2
  have hF2 := Fst.ext hF hx2 id
  have HP := number_any wd (.slice a k.len cap) r p fb k _ (hk.ext hx2 (fun _ _ h => h))
  have hfl := Blk.lt hF
  have hnk : ∃ x y z, Value.slice a k.len cap = .slice x y z := ⟨_, _, _, rfl⟩
  have hw : wholeS wd r p = match numberS wd r with | some z => .ok z | none => .error p := rfl
  rw [hw]
  generalize numberS wd r = o at *
  have HPP := Lib.hid HP
  clear HP hz hw hk h1 h2
  unfold nodeV at *
  go_enter Tryz.func74, Tryz.ntmps74
  go_wp2_with fail
  refine HPP.out.mono ?_
  intro e w3 hpost
  obtain ⟨b, a3, n3, cap3, rfl, hx3, hres⟩ := hpost.sl
  rw [hz2] at hres
  have hb3 := hb2.ext hx3 id
  have hn3 := NodeIn.ext hn2 hx3 id
  have hF3 := Fst.ext hF2 hx3 id
  have hx4 := hx2.trans' hx3
  have hs3 := hx3.size
  rw [hz2] at hs3
  have l0 : w.heap.size < w3.heap.size := by omega
  have l1 : w.heap.size + 1 < w3.heap.size := by omega
  have c0 := hb3.cell 0
  have c1 := hb3.cell 1
  have f0 := hb3.frozen 0
  have f1 := hb3.frozen 1
  simp only [List.getElem?_toArray, List.getElem?_cons_zero, List.getElem?_cons_succ] at c0 c1
  obtain ⟨n0, n1, n2, n3', n4⟩ := hn3.cells
  clear hx1 hx2 hb2 hn2 hF2 hx3 hpost hF HPP hz2
  have HX4 := Lib.hid hx4
  have HR := Lib.hid hres
  have HF3 := Lib.hid hF3
  clear hx4 hres hF3
  cases o with
  | some z =>
    rw [Option.isSome_some]
    simp only
    go_wp2_with fail
    refine bodyPost_ret (v := .agg #[.bool b, .slice a3 n3 cap3]) (by simp [results, Tryz.results74, go_sem, *]) rfl ⟨?_, [.bool b, .slice a3 n3 cap3], rfl, ⟨rfl, by simp [Value.oneCell']⟩, ?_, ?_⟩
    · exact (((HX4.out.setCell (p := ⟨w.heap.size + 1, 0, none⟩) (fun h => by have : w.heap.size + 1 < w.heap.size := h; omega) _).setCell (p := ⟨w.heap.size + 1, 1, none⟩) (fun h => by have : w.heap.size + 1 < w.heap.size := h; omega) _).alloc _).mono (fun _ _ h => h.elim)
    · exact Blk.alloc ((HF3.out.setOther ⟨w.heap.size + 1, 0, none⟩ (by simp; omega) _).setOther ⟨w.heap.size + 1, 1, none⟩ (by simp; omega) _) _
    · have h := ((HR.out.setOther ⟨w.heap.size + 1, 0, none⟩ (by simp) (.bool b)).setOther ⟨w.heap.size + 1, 1, none⟩ (by simp) (.slice a3 n3 cap3)).ext ((Ext.refl (fun _ => False) _).alloc (.cells #[.bool b, .slice a3 n3 cap3] 38)) (fun _ _ h => h)
      exact (h.mono (base' := w.heap.size) (by omega)).rep
  | none =>
    rw [Option.isSome_none]
    simp only
    go_wp2_with fail
    refine (fault_no wd _ r p fb 0 _ ⟨_, _, _, rfl⟩ (Blk.alloc HF3.out _)).mono ?_
    rintro e w5 ⟨rfl, hx5, hF5⟩
    have hb5 := (hb3.alloc (.cells #[.bool b, .slice a3 n3 cap3] 38)).ext hx5 (by omega)
    have hm5 := (Blk.new w3 #[.bool b, .slice a3 n3 cap3] 38).ext hx5 (by omega)
    have d0 := hb5.cell 0
    have d1 := hb5.cell 1
    have k0 := hb5.frozen 0
    have k1 := hb5.frozen 1
    have m0 := hm5.cell 0
    have m1 := hm5.cell 1
    simp only [List.getElem?_toArray, List.getElem?_cons_zero, List.getElem?_cons_succ] at d0 d1 m0 m1
    have HX5 := Lib.hid (((HX4.out.alloc (.cells #[.bool b, .slice a3 n3 cap3] 38)).mono (M' := fun i => i = fb) (fun _ _ h => h.elim)).trans' hx5)
    have HF5 := Lib.hid hF5
    clear c0 c1 f0 f1 n0 n1 n2 n3' n4 hx5 hF5 hb3 hb5 hm5 hn3
    go_wp2_with fail
    refine bodyPost_ret (v := .agg #[.bool b, .slice a3 n3 cap3]) (by simp [results, Tryz.results74, go_sem, *]) rfl ⟨?_, [.bool b, .slice a3 n3 cap3], rfl, ⟨rfl, by simp [Value.oneCell']⟩, ?_⟩
    · exact ((HX5.out.setCell (p := ⟨w.heap.size + 1, 0, none⟩) (fun h => by have : w.heap.size + 1 < w.heap.size := h; omega) _).setCell (p := ⟨w.heap.size + 1, 1, none⟩) (fun h => by have : w.heap.size + 1 < w.heap.size := h; omega) _)
    · exact ((HF5.out.setOther ⟨w.heap.size + 1, 0, none⟩ (by simp; omega) _).setOther ⟨w.heap.size + 1, 1, none⟩ (by simp; omega) _)

end Go.Proofs.YtmcinpeplkkpfaaGreatDoor
