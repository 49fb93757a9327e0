/- Walk: Deep. -/
import Derived.Test.YthiaikbdghmnbaaDoorRead
import Derived.Test.YthiaikbdghmnbaaDoorLexF
import Derived.Test.YthiaikbdghmnbaaDoorRows
import Derived.Deep.LoopGhost
import Derived.IntWalk
import Derived.BigQuiet
namespace Go.Proofs.YthiaikbdghmnbaaDoor
open Go.RowKit

namespace F
theorem deep_le_size : ∀ f : F, f.deep ≤ f.size
  | .nil => Nat.le_refl _
  | .cons _ r _ k t => by
    have h1 := deep_le_size k
    have h2 := deep_le_size t
    simp only [deep, size]
    cases r <;> simp <;> omega
end F

set_option maxHeartbeats 2000000 in
theorem deep_calls (D : Nat → Prop) : ∀ (n : Nat) (f : F) (va : Value) (w : World), f.size < n → n < 4611686018427387904 → Sl D w va f →
    Calls Tryd.prog 8 #[va] w fun e w' => e = .returned (.int .i64 f.deep) ∧ Ext (fun _ => False) w w' := by
  intro n
  induction n with
  | zero => intro f va w h; omega
  | succ n ih =>
    intro f va w hsz hn hf
    have IH := Lib.hid ih
    clear ih
    obtain ⟨a, cap, ba, oa, rfl, ha1, ha2, ha, har⟩ := hf.rowAt'
    clear hf
    unfold maxLen at ha2
    have HA := Lib.hid ha
    have HAR := Lib.hid har
    clear ha har
    go_enter Tryd.func8, Tryd.ntmps8
    go_wp2_with fail
    go_loopg [3, 8] f.len (fun q m i wr => ∃ (k mo : Nat) (r : F), i = .int .i64 k ∧ m = .int .i64 mo ∧ k + r.len = f.len ∧ q = r.len ∧ Ext (fun _ => False) w wr ∧
        Hid (RowAt D wr ba r (oa + k * 4)) ∧ Hid (max mo r.deep = f.deep) ∧ r.size ≤ f.size ∧ mo ≤ f.size)
    case atStart => exact ⟨0, 0, f, rfl, rfl, by omega, rfl, Ext.refl _ _, by rw [Nat.zero_mul, Nat.add_zero]; exact HAR, show _ = _ by simp, Nat.le_refl _, Nat.zero_le _⟩
    case round =>
      obtain ⟨k, mo, r, rfl, rfl, hk, rfl, hext, HAR, HM, hsr, hmo⟩ := hrel
      cases r with
      | nil =>
        simp only [F.len] at hk
        have hm := HM.out
        simp only [F.deep] at hm
        obtain rfl : mo = f.deep := by omega
        clear hm
        go_wp2_with fail
        go_ret
        exact ⟨rfl, hext⟩
      | cons wd rw1 p1 kd t =>
        simp only [F.len] at hk
        obtain ⟨rfl, _⟩ := HA.out (by omega)
        obtain ⟨a0, ⟨av, a1, asl⟩, a2, a3, _, ar⟩ := HAR.out
        obtain ⟨kc, kcap, rfl, _, _⟩ := asl.shape
        have AR := Lib.hid ar
        clear ar
        have hk0 : (0 : Int) ≤ (k : Int) := by omega
        have hk1 : (k : Int) < (f.len : Int) := by omega
        cases rw1 with
        | false =>
          go_wp2_with fail
          go_roundg t.len
          case measure => simp only [F.len]; omega
          case rel =>
            refine ⟨k + 1, mo, t, by simp, rfl, by omega, rfl, hext.alloc _, ?_, ?_, by simp only [F.size] at hsr; omega, hmo⟩
            · have := RowAt.ext ((Ext.refl (fun _ => False) wr).alloc (.cells #[.string wd, .slice kc kd.len kcap, .bool false, .int .i64 p1] 35)) (fun _ _ h => h) id _ _ AR.out
              rw [show oa + k * 4 + 4 = oa + (k + 1) * 4 by omega] at this
              exact this
            · have := HM.out; simp only [F.deep] at this; exact show _ = _ by simpa using this
        | true =>
          have hkd : kd.size < n := by simp only [F.size] at hsr; omega
          have hdk := F.deep_le_size kd
          have hxa := (Ext.refl (fun _ => False) wr).alloc (.cells #[.string wd, .slice kc kd.len kcap, .bool true, .int .i64 p1] 35)
          go_wp2_with fail
          refine (IH.out kd _ _ hkd (by omega) (asl.ext hxa (fun _ _ h => h))).mono ?_
          rintro e w2 ⟨rfl, hx2⟩
          have hAR := RowAt.ext (hxa.trans' hx2) (fun _ _ h => h) id _ _ AR.out
          have AR2 := Lib.hid hAR
          have hX2 := (hext.alloc _).trans' hx2
          clear hAR hxa hx2 AR asl IH
          have hmx : ∀ x : Nat, x = max mo (kd.deep + 1) → max x t.deep = f.deep := fun x hx => by
            have := HM.out; simp only [F.deep] at this; simp at this; omega
          have HMX := Lib.hid hmx
          clear hmx HM
          go_wp2_with fail
          all_goals
            go_roundg t.len
            case measure => simp only [F.len]; omega
            case rel =>
              refine ⟨k + 1, max mo (kd.deep + 1), t, by simp, ?_, by omega, rfl, hX2, ?_, HMX.out _ rfl, by simp only [F.size] at hsr; omega, ?_⟩
              · refine congrArg (Value.int .i64) ?_; omega
              · have := AR2.out
                rw [show oa + k * 4 + 4 = oa + (k + 1) * 4 by omega] at this
                exact this
              · simp only [F.size] at hsr; omega

theorem deep_any {D : Nat → Prop} {f : F} {va : Value} {w : World} (hf : Sl D w va f) (hn : f.size < 4611686018427387900) :
    Calls Tryd.prog 8 #[va] w fun e w' => e = .returned (.int .i64 f.deep) ∧ Ext (fun _ => False) w w' := deep_calls D (f.size + 1) f va w (by omega) (by omega) hf

end Go.Proofs.YthiaikbdghmnbaaDoor
