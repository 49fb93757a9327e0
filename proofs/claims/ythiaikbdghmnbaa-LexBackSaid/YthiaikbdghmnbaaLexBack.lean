/- The walk of LexBack: it returns true. -/
import Derived.Test.YthiaikbdghmnbaaLexAwake
import Derived.Test.YthiaikbdghmnbaaLexTx
import Derived.Test.YthiaikbdghmnbaaTrees
import Derived.Test.YthiaikbdghmnbaaPlaces
namespace Go.Proofs.Ythiaikbdghmnbaa
open Go.RowKit

set_option maxRecDepth 100000 in
set_option maxHeartbeats 4000000 in
theorem lexBack_walk (s : ByteArray) (hs : s.size ≤ 140737488351232) (w : World) :
    Calls Try.prog 6 #[.string s] w fun e w' => e = .returned (.bool true) ∧ Ext (fun _ => False) w w' := by
  by_cases h5 : (5000 : Int) < (s.size : Int)
  · go_enter Try.func6, Try.ntmps6
    go_wp2_with fail
    refine (awake_any _).mono ?_
    rintro e w1 ⟨rfl, hx1⟩
    go_wp2_with fail
    go_ret
    exact ⟨rfl, hx1⟩
  · have hd : decide ((5000 : Int) < (s.size : Int)) = false := by simpa using h5
    have h5' : s.size ≤ 5000 := by omega
    have ps := fun w => parse_any s w (by unfold maxLen; omega)
    have good := back_good s h5'
    have bad := back_bad s h5'
    have size := parseS_size s
    generalize parseS s = r at *
    obtain ⟨f, n, e⟩ := r
    simp only at good bad size
    by_cases he : e = 0
    · subst he
      obtain ⟨rfl, hl, hdp, hpl, g, hg, hsg, htx, hgd⟩ := good rfl
      have hts : (⟨f.tx.toArray⟩ : ByteArray).size = f.tx.length := by rw [Lib.size_eq]
      have pt := fun w => parse_any ⟨f.tx.toArray⟩ w (by unfold maxLen; omega)
      rw [hg] at pt
      have hgs := (parseS_size ⟨f.tx.toArray⟩).1
      rw [hg] at hgs
      simp only at hgs
      have tf := fun (D : Nat → Prop) (va : Value) (w : World) (h : Sl D w va f) => text_any h (by omega)
      have tg := fun (D : Nat → Prop) (va : Value) (w : World) (h : Sl D w va g) => text_any h (by rw [htx]; omega)
      rw [htx] at tg
      have df := fun (D : Nat → Prop) (va : Value) (w : World) (h : Sl D w va f) => deep_any h (by omega)
      have dg := fun (D : Nat → Prop) (va : Value) (w : World) (h : Sl D w va g) => deep_any h (by omega)
      rw [hgd] at dg
      have sh := fun (D D' : Nat → Prop) (va vb : Value) (w : World) (h : Sl D w va f) (h' : Sl D' w vb g) => shape_any h h'
      rw [hsg] at sh
      have pl := fun (D : Nat → Prop) (va : Value) (w : World) (h : Sl D w va f) => places_any (s := s) (by omega) h hpl
      rw [← hts] at hl
      generalize (⟨f.tx.toArray⟩ : ByteArray) = t at *
      have j1 : (t.toList == t.toList) = true := by simp
      have j2 : ((t.size : Nat) : Int) ≤ 2 * (s.size : Int) := by omega
      have j2b : decide (((t.size : Nat) : Int) ≤ 2 * (s.size : Int)) = true := decide_eq_true j2
      have j3 : ((f.deep : Nat) : Int) ≤ 400 := by omega
      have j3b : decide (((f.deep : Nat) : Int) ≤ 400) = true := decide_eq_true j3
      have j4 : (((f.deep : Nat) : Int) == ((f.deep : Nat) : Int)) = true := by simp
      have PS := Lib.hid ps
      have PT := Lib.hid pt
      have TF := Lib.hid tf
      have TG := Lib.hid tg
      have DF := Lib.hid df
      have DG := Lib.hid dg
      have SH := Lib.hid sh
      have PL := Lib.hid pl
      clear ps pt tf tg df dg sh pl good bad hg hsg htx hgd hpl hts
      go_enter Try.func6, Try.ntmps6
      go_wp2_with fail
      refine (awake_any _).mono ?_
      rintro e w1 ⟨rfl, hx1⟩
      go_wp2_with fail
      refine (PS.out _).mono ?_
      rintro e w2 ⟨hx2, va, rfl, hsa⟩
      have HX2 := hx1.trans' hx2
      clear hx1 hx2
      go_wp2_with fail
      refine (TF.out _ _ _ hsa).mono ?_
      rintro e w3 ⟨rfl, hx3⟩
      have HX3 := HX2.trans' hx3
      replace hsa := hsa.ext hx3 (fun _ _ h => h)
      clear HX2 hx3
      go_wp2_with fail
      refine (PT.out _).mono ?_
      rintro e w4 ⟨hx4, vb, rfl, hsb⟩
      have HX4 := HX3.trans' hx4
      replace hsa := hsa.ext hx4 (fun _ _ h => h)
      clear HX3 hx4
      go_wp2_with fail
      refine (SH.out _ _ _ _ _ hsa hsb).mono ?_
      rintro e w5 ⟨rfl, nq, rfl⟩
      replace hsa := hsa.drewN nq
      replace hsb := hsb.drewN nq
      replace HX4 := HX4.drewN nq
      go_wp2_with fail
      refine (TG.out _ _ _ hsb).mono ?_
      rintro e w6 ⟨rfl, hx6⟩
      have HX6 := HX4.trans' hx6
      replace hsa := hsa.ext hx6 (fun _ _ h => h)
      replace hsb := hsb.ext hx6 (fun _ _ h => h)
      clear HX4 hx6
      go_wp2_with fail
      refine (DF.out _ _ _ hsa).mono ?_
      rintro e w7 ⟨rfl, hx7⟩
      have HX7 := HX6.trans' hx7
      replace hsa := hsa.ext hx7 (fun _ _ h => h)
      replace hsb := hsb.ext hx7 (fun _ _ h => h)
      clear HX6 hx7
      go_wp2_with fail
      refine (DG.out _ _ _ hsb).mono ?_
      rintro e w8 ⟨rfl, hx8⟩
      have HX8 := HX7.trans' hx8
      replace hsa := hsa.ext hx8 (fun _ _ h => h)
      clear HX7 hx8
      go_wp2_with fail
      refine (DF.out _ _ _ hsa).mono ?_
      rintro e w9 ⟨rfl, hx9⟩
      have HX9 := HX8.trans' hx9
      replace hsa := hsa.ext hx9 (fun _ _ h => h)
      clear HX8 hx9
      go_wp2_with fail
      refine (PL.out _ _ _ hsa).mono ?_
      rintro e w10 ⟨rfl, hx10⟩
      have HX10 := HX9.trans' hx10
      clear HX9 hx10
      go_wp2_with fail
      go_ret
      exact ⟨rfl, HX10⟩
    · obtain ⟨rfl, h2, h3⟩ := bad he
      have e1 : (e == 0) = false := by simpa using he
      have e2 : (e != 0) = true := by simpa using he
      have k1 : (0 : Int) ≤ (n : Int) := by omega
      have k2 : (n : Int) ≤ (s.size : Int) := by omega
      have k2b : decide ((n : Int) ≤ (s.size : Int)) = true := decide_eq_true k2
      have k1b : decide ((0 : Int) ≤ (n : Int)) = true := decide_eq_true k1
      clear good bad size he
      have PS := Lib.hid ps
      clear ps
      rcases h3 with rfl | rfl
      all_goals
        go_enter Try.func6, Try.ntmps6
        go_wp2_with fail
        refine (awake_any _).mono ?_
        rintro e w1 ⟨rfl, hx1⟩
        go_wp2_with fail
        refine (PS.out _).mono ?_
        rintro e w2 ⟨hx2, va, rfl, hsa⟩
        obtain ⟨_, cs, rfl, _, _⟩ := hsa.shape
        have HX2 := hx1.trans' hx2
        simp only [F.len]
        go_wp2_with fail
        go_ret
        exact ⟨rfl, HX2⟩

end Go.Proofs.Ythiaikbdghmnbaa
