/- The walk of LexShows: it returns true, of trees that are not too great. -/
import Derived.Test.YthiaikbdghmnbaaDoorMany
import Derived.Test.YthiaikbdghmnbaaDoorLexAwake
namespace Go.Proofs.YthiaikbdghmnbaaDoor
open Go.RowKit

theorem F.size_le_wt : ∀ f : F, f.size ≤ f.wt
  | .nil => Nat.le_refl _
  | .cons _ _ _ k t => by have := size_le_wt k; have := size_le_wt t; simp only [size, wt]; omega

theorem F.tx_le_wt : ∀ (f : F) (b : Bool), (f.txB b).length ≤ 3 * f.wt
  | .nil, _ => by simp [txB]
  | .cons wd r _ k t, b => by
    have h1 := tx_le_wt k false
    have h2 := tx_le_wt t true
    have h3 : wd.data.toList.length = wd.size := by rw [Lib.size_eq]
    simp only [txB, wt, List.length_append]
    cases b <;> cases r <;> simp only [if_true, if_false, Bool.false_eq_true, List.length_cons, List.length_append, List.length_nil] <;> omega

set_option maxHeartbeats 2000000 in
theorem lexShows_walk (f : F) (va : Value) (w : World) (hs : Sl (· < w.heap.size) w va f) (hwt : f.wt ≤ 1048576) :
    Calls Tryd.prog 10 #[va] w fun e w' => e = .returned (.bool true) ∧ Ext (fun _ => False) w w' := by
  have h1 := F.size_le_wt f
  have h2 := F.tx_le_wt f false
  have h3 : f.tx.length ≤ 1073741824 := by unfold F.tx; omega
  have PM := Lib.hid (many_calls _ (f.size + 1) f va 2000 w (by omega) hwt (by omega) (by omega) hs)
  have PT := Lib.hid (fun (D : Nat → Prop) (w : World) (h : Sl D w va f) => text_any h (by omega))
  have PU := Lib.hid (fun (B : Nat) (w : World) (h : Sl (· < B) w va f) (hB : B ≤ w.heap.size) => turned_calls B (f.size + 1) f va w (by omega) (by omega) h hB)
  have PR := Lib.hid (fun (D : Nat → Prop) (vb : Value) (w : World) (h : Sl D w vb f) => refText_calls D (f.size + 1) f vb w (by omega) h3 h)
  have PD := Lib.hid (fun (D : Nat → Prop) (w : World) (h : Sl D w va f) => deep_any h (by omega))
  have PE := Lib.hid (fun (D : Nat → Prop) (vb : Value) (w : World) (h : Sl D w vb f) => refDeep_calls D (f.size + 1) f vb w (by omega) (by omega) h)
  have hml := F.many_le f 2000 0
  generalize f.many 2000 0 = m at *
  generalize (⟨f.tx.toArray⟩ : ByteArray) = t at *
  have j1 : (t.toList == t.toList) = true := by simp
  have j2 : (((f.deep : Nat) : Int) == ((f.deep : Nat) : Int)) = true := by simp
  by_cases hm : (2000 : Int) < m
  · go_enter Tryd.func10, Tryd.ntmps10
    go_wp2_with fail
    refine PM.out.mono ?_
    rintro e w1 ⟨rfl, nq, rfl⟩
    go_wp2_with fail
    refine (awake_any _).mono ?_
    rintro e w2 ⟨rfl, hx2⟩
    have hx := ((Ext.refl (fun _ => False) w).drewN nq).trans' hx2
    go_wp2_with fail
    go_ret
    exact ⟨rfl, hx⟩
  · have hmb : decide ((2000 : Int) < m) = false := decide_eq_false hm
    go_enter Tryd.func10, Tryd.ntmps10
    go_wp2_with fail
    refine PM.out.mono ?_
    rintro e w1 ⟨rfl, nq, rfl⟩
    have hx1 := (Ext.refl (fun _ => False) w).drewN nq
    have hs1 := hs.drewN nq
    generalize hw1 : w.drewN nq = w1 at *
    clear hw1
    go_wp2_with fail
    refine (PT.out _ _ hs1).mono ?_
    rintro e w2 ⟨rfl, hx2⟩
    have hx02 := hx1.trans' hx2
    have hs2 := hs1.ext hx2 (fun _ _ h => h)
    clear hx1 hx2 hs1
    go_wp2_with fail
    refine (PU.out _ _ hs2 hx02.size).mono ?_
    rintro e w3 ⟨hx3, v3, rfl, ht3⟩
    have hx03 := hx02.trans' hx3
    have hs3 := hs2.ext hx3 (fun _ _ h => h)
    clear hx02 hx3 hs2
    go_wp2_with fail
    refine (PR.out _ _ _ ht3).mono ?_
    rintro e w4 ⟨rfl, rfl⟩
    clear ht3
    go_wp2_with fail
    refine (PD.out _ _ hs3).mono ?_
    rintro e w4 ⟨rfl, hx4⟩
    have hx04 := hx03.trans' hx4
    have hs4 := hs3.ext hx4 (fun _ _ h => h)
    clear hx03 hx4 hs3
    go_wp2_with fail
    refine (PU.out _ _ hs4 hx04.size).mono ?_
    rintro e w5 ⟨hx5, v5, rfl, ht5⟩
    have hx05 := hx04.trans' hx5
    clear hx04 hx5 hs4
    go_wp2_with fail
    refine (PE.out _ _ _ ht5).mono ?_
    rintro e w6 ⟨rfl, hx6⟩
    have hx06 := hx05.trans' hx6
    clear hx05 hx6 ht5
    go_wp2_with fail
    refine (awake_any _).mono ?_
    rintro e w7 ⟨rfl, hx7⟩
    have hx07 := hx06.trans' hx7
    clear hx06 hx7
    go_wp2_with fail
    go_ret
    exact ⟨rfl, hx07⟩

end Go.Proofs.YthiaikbdghmnbaaDoor
