/- The walk of LexRow: it returns true. -/
import Derived.Test.YthiaikbdghmnbaaLexAwake
import Derived.Test.YthiaikbdghmnbaaLexRowLaw
import Derived.Test.YthiaikbdghmnbaaLexDeep
import Derived.Laws.AppendOwnNone
namespace Go.Proofs.Ythiaikbdghmnbaa
open Go.RowKit

set_option maxRecDepth 100000 in
set_option maxHeartbeats 4000000 in
theorem lexRow_walk (a b : ByteArray) (ha : a.size ≤ 140737488351232) (hb : b.size ≤ 140737488351232) (w : World) :
    Calls Try.prog 4 #[.string a, .string b] w fun e w' => e = .returned (.bool true) ∧ Ext (fun _ => False) w w' := by
  by_cases hab : (5000 : Int) < (a.size : Int) + (b.size : Int)
  · go_enter Try.func4, Try.ntmps4
    go_wp2_with fail
    refine (awake_any _).mono ?_
    rintro e w1 ⟨rfl, hx1⟩
    go_wp2_with fail
    go_ret
    exact ⟨rfl, hx1⟩
  · have hd : decide ((5000 : Int) < (a.size : Int) + (b.size : Int)) = false := by simpa using hab
    have hab' : a.size + b.size ≤ 5000 := by omega
    have pa := fun w => parse_any a w (by unfold maxLen; omega)
    have pb := fun w => parse_any b w (by unfold maxLen; omega)
    have ps := fun w => parse_any (sp a b) w (by rw [sp_size]; unfold maxLen; omega)
    have pr := fun w => parse_any (br a) w (by rw [br_size]; unfold maxLen; omega)
    have law1 := sp_bad a b hab'
    have law2 := sp_good a b hab'
    have law3 := br_deep a (by omega)
    have law4 := br_row a (by omega)
    have law5 : (parseS a).2.2 = 0 → (parseS a).1.size ≤ a.size := fun _ => (parseS_size a).1
    have law6 := (parseS_size b).2
    have law7 : (parseS b).2.2 = 0 → (parseS b).1.size ≤ b.size := fun _ => (parseS_size b).1
    generalize parseS a = ra at *
    generalize parseS b = rb at *
    generalize parseS (sp a b) = rs at *
    generalize parseS (br a) = rr at *
    obtain ⟨fa, na, ea⟩ := ra
    obtain ⟨fb, nb, eb⟩ := rb
    obtain ⟨fs, ns, es⟩ := rs
    obtain ⟨fr, nr, er⟩ := rr
    simp only at law1 law2 law3 law4 law5 law6 law7
    have PA := Lib.hid pa
    have PB := Lib.hid pb
    have PS := Lib.hid ps
    have PR := Lib.hid pr
    clear pa pb ps pr
    by_cases hea : ea = 0
    · subst hea
      by_cases heb : eb = 0
      · subst heb
        have l2 := law2 rfl rfl
        simp only [Prod.mk.injEq] at l2
        obtain ⟨rfl, rfl, rfl⟩ := l2
        have l3 := law3 rfl
        have l4 := law4 rfl
        have hshp := F.shape_app (F.sh_shape 0 fa) (F.sh_shape (a.size + 1) fb)
        have HS := Lib.hid hshp
        have hsz1 := law5 rfl
        have hsz2 := law7 rfl
        have hln1 := F.len_le_size fa
        have hln2 := F.len_le_size fb
        clear law1 law2 law3 law4 law5 law6 law7 hshp
        have L3 := Lib.hid l3
        have L4 := Lib.hid l4
        clear l3 l4
        go_enter Try.func4, Try.ntmps4
        go_wp2_with fail
        refine (awake_any _).mono ?_
        rintro e w1 ⟨rfl, hx1⟩
        go_wp2_with fail
        refine (PA.out _).mono ?_
        rintro e w2 ⟨hx2, va, rfl, hsa⟩
        go_wp2_with fail
        refine (PB.out _).mono ?_
        rintro e w3 ⟨hx3, vb, rfl, hsb⟩
        go_wp2_with fail
        refine (PS.out _).mono ?_
        rintro e w4 ⟨hx4, vs, rfl, hss⟩
        go_wp2_with fail
        refine (PR.out _).mono ?_
        rintro e w5 ⟨hx5, vr, rfl, hsr⟩
        have HX := (((hx1.trans' hx2).trans' hx3).trans' hx4).trans' hx5
        replace hsa := (((hsa.ext hx3 (fun _ _ h => h)).ext hx4 (fun _ _ h => h)).ext hx5 (fun _ _ h => h)).mono (D' := fun b => b < w5.heap.size) (fun b _ h => h)
        replace hsb := ((hsb.ext hx4 (fun _ _ h => h)).ext hx5 (fun _ _ h => h)).mono (D' := fun b => b < w5.heap.size) (fun b _ h => h)
        replace hss := (hss.ext hx5 (fun _ _ h => h)).mono (D' := fun b => b < w5.heap.size) (fun b _ h => h)
        replace hsr := hsr.mono (D' := fun b => b < w5.heap.size) (fun b _ h => h)
        clear hx1 hx2 hx3 hx4 hx5 PA PB PS PR
        have hsa0 := hsa
        obtain ⟨ya, hya, hha⟩ := hsa
        obtain ⟨yb, hyb, hhb⟩ := hsb
        have own0 := World.ownsRow_made (e := 31) (size := 4) (base := w5.heap.size) w5 #[] 0 (Nat.le_refl _) (by decide) rfl
        have ext0 := (Ext.refl (fun _ => False) w5).alloc (.cells #[] 31)
        have HX6 : Hid (∀ v1 w6, Grew (.slice (some ⟨w5.heap.size, 0, none⟩) 0 0) v1 (w5.alloc (.cells #[] 31)) w6 → Ext (fun _ => False) w5 w6) := fun v1 w6 hg => hg.ext ext0 (fun k hk hlt => by cases hk; exact absurd hlt (Nat.lt_irrefl _))
        have HX7 : Hid (∀ v1 v2 w6 w7 n xs, Ext (fun _ => False) w5 w6 → w6.ownsRow w5.heap.size 31 4 v1 n xs → Grew v1 v2 w6 w7 → Ext (fun _ => False) w5 w7) := fun v1 v2 w6 w7 n xs hx hown hg => hg.ext hx (fun k hk hlt => by have := (hown.lt k hk).1; omega)
        go_wp2_with (first | (at_builtin; refine wpList_append_held (.inr rfl) (.tmp 79) (.tmp 80) 24 rfl w5.heap.size 31 4 56 Try.eltTree _ 0 [] rfl own0 (fun b => b < w5.heap.size) va fa.len ya rfl (hha.move (fun b _ h => ext0.block b h id) (fun _ h _ => h)) hya.length hya.oneCell (by unfold maxLen; omega) (by omega) (by simp) ?_; intro v1 w6 own1 hg1; have hx6 := HX6.out _ _ hg1) | (at_builtin; refine wpList_append_held (.inr rfl) (.tmp 81) (.tmp 82) 24 rfl w5.heap.size 31 4 56 Try.eltTree v1 _ _ rfl own1 (fun b => b < w5.heap.size) vb fb.len yb rfl (hhb.move (fun b _ h => hx6.block b h id) (fun _ h _ => h)) hyb.length hyb.oneCell (by unfold maxLen; omega) (by omega) hx6.size ?_; intro v2 w7 own2 hg2; have hx7 := HX7.out _ _ _ _ _ _ hx6 own1 hg2))
        have slv2 := sl_of_owns (D := fun b => b < w5.heap.size) (f := fa.app fb) (by rw [F.len_app]; simpa using own2) ((hya.ext hx7 (fun _ _ h => h)).app (hyb.ext hx7 (fun _ _ h => h)))
        have hsc := shape_any (hss.ext hx7 (fun _ _ h => h)) slv2
        rw [HS.out] at hsc
        have sla := hsa0.ext hx7 (fun _ _ h => h)
        have slr := hsr.ext hx7 (fun _ _ h => h)
        have HX7' := HX.trans' hx7
        clear slv2 hss hsr hsa0 own0 own1 own2 hg1 hg2 hx6 hya hyb hha hhb HX6 HX7 HS
        refine hsc.mono ?_
        rintro e w8 ⟨rfl, hw8⟩
        replace sla : Sl (fun b => b < w5.heap.size) w8 va fa := by obtain ⟨n, rfl⟩ := hw8; exact sla.drewN n
        replace slr : Sl (fun b => b < w5.heap.size) w8 vr fr := by obtain ⟨n, rfl⟩ := hw8; exact slr.drewN n
        have HX8 : Ext (fun _ => False) w w8 := by obtain ⟨n, rfl⟩ := hw8; exact HX7'.drewN n
        clear hsc hw8 HX7' hx7 HX
        by_cases hd4 : fa.deep = 400
        · have l3 := (L3.out hd4).1
          subst l3
          have hd1 : ((fa.deep : Int) == 400) = true := by simp; omega
          have hd2 : ((3 : Int) == 3) = true := rfl
          have hdd := deep_any sla (by omega)
          have HD := Lib.hid hdd
          clear hdd hd4
          go_wp2_with fail
          refine HD.out.mono ?_
          rintro e w9 ⟨rfl, hx9⟩
          go_wp2_with fail
          go_ret
          exact ⟨rfl, HX8.trans' hx9⟩
        · have l4 := L4.out hd4
          simp only [Prod.mk.injEq] at l4
          obtain ⟨rfl, rfl, rfl⟩ := l4
          have hd1 : ((fa.deep : Int) == 400) = false := by simp; omega
          have hdd := deep_any sla (by omega)
          have HD := Lib.hid hdd
          clear hdd hd4
          obtain ⟨br_, off, cap, rfl, hc1, hc2, _, c0, ⟨kv, c1, hkv⟩, c2, c3, _, _⟩ := slr.cons
          clear slr
          go_wp2_with fail
          refine HD.out.mono ?_
          rintro e w9 ⟨rfl, hx9⟩
          replace c1 := hx9.cellSome c1 id
          replace c2 := hx9.cellSome c2 id
          clear c0 c3
          have hsc := shape_any (hkv.ext hx9 (fun _ _ h => h)) (sla.ext hx9 (fun _ _ h => h))
          rw [F.sh_shape] at hsc
          have HSC := Lib.hid hsc
          clear hsc hkv sla
          go_wp2_with fail
          refine HSC.out.mono ?_
          rintro e w10 ⟨rfl, nq, rfl⟩
          go_wp2_with fail
          go_ret
          exact ⟨rfl, (HX8.trans' hx9).drewN nq⟩
      · have l1 := law1 rfl heb
        simp only [Prod.mk.injEq] at l1
        obtain ⟨rfl, rfl, rfl⟩ := l1
        have h1 : (es == 0) = false := by simpa using heb
        have h2 : (es != 0) = true := by simpa using heb
        clear law1 law2 law3 law4 law5 law7 heb
        go_enter Try.func4, Try.ntmps4
        go_wp2_with fail
        refine (awake_any _).mono ?_
        rintro e w1 ⟨rfl, hx1⟩
        go_wp2_with fail
        refine (PA.out _).mono ?_
        rintro e w2 ⟨hx2, va, rfl, hsa⟩
        go_wp2_with fail
        refine (PB.out _).mono ?_
        rintro e w3 ⟨hx3, vb, rfl, hsb⟩
        go_wp2_with fail
        refine (PS.out _).mono ?_
        rintro e w4 ⟨hx4, vs, rfl, hss⟩
        obtain ⟨_, cs, rfl, _, _⟩ := hss.shape
        go_wp2_with fail
        refine (PR.out _).mono ?_
        rintro e w5 ⟨hx5, vr, rfl, hsr⟩
        go_wp2_with fail
        go_ret
        exact ⟨rfl, (((hx1.trans' hx2).trans' hx3).trans' hx4).trans' hx5⟩
    · have h1 : (ea == 0) = false := by simpa using hea
      have h2 : (ea != 0) = true := by simpa using hea
      clear law1 law2 law3 law4 law5 law6 law7 hea
      go_enter Try.func4, Try.ntmps4
      go_wp2_with fail
      refine (awake_any _).mono ?_
      rintro e w1 ⟨rfl, hx1⟩
      go_wp2_with fail
      refine (PA.out _).mono ?_
      rintro e w2 ⟨hx2, va, rfl, hsa⟩
      go_wp2_with fail
      refine (PB.out _).mono ?_
      rintro e w3 ⟨hx3, vb, rfl, hsb⟩
      go_wp2_with fail
      refine (PS.out _).mono ?_
      rintro e w4 ⟨hx4, vs, rfl, hss⟩
      go_wp2_with fail
      refine (PR.out _).mono ?_
      rintro e w5 ⟨hx5, vr, rfl, hsr⟩
      go_wp2_with fail
      go_ret
      exact ⟨rfl, (((hx1.trans' hx2).trans' hx3).trans' hx4).trans' hx5⟩

end Go.Proofs.Ythiaikbdghmnbaa
