/- Walks: same, parses. -/
import Derived.Test.YthiaikbdghmnbaaDoorRefParse
import Derived.Test.YthiaikbdghmnbaaDoorLexW4
import Derived.Test.YthiaikbdghmnbaaDoorLexF
import Derived.BigQuiet
import Derived.Deep.LoopGhost
namespace Go.Proofs.YthiaikbdghmnbaaDoor
open Go.RowKit

theorem ref_any (s : ByteArray) (w : World) (hm : s.size ≤ maxLen) : Calls Tryd.prog 12 #[.string s] w (RefPost w (parseS s)) := by
  rw [← refS_eq]
  unfold refS
  by_cases h : 262144 < s.size
  · rw [if_pos h]; exact ref_long s w h hm
  · rw [if_neg h]; exact ref_short s w (by omega)

set_option maxRecDepth 100000 in
set_option maxHeartbeats 2000000 in
theorem same_calls (D D' : Nat → Prop) : ∀ (n : Nat) (f : F) (va vb : Value) (w : World), f.size < n → Sl D w va f → Sl D' w vb f →
    Calls Tryd.prog 13 #[va, vb] w fun e w' => e = .returned (.bool true) ∧ ∃ n, w' = w.drewN n := by
  intro n
  induction n with
  | zero => intro f va vb w h; omega
  | succ n ih =>
    intro f va vb w hsz hf hg
    have IH := Lib.hid ih
    clear ih
    obtain ⟨a, cap, ba, oa, rfl, ha1, ha2, ha, har⟩ := hf.rowAt'
    obtain ⟨b, cap', bb, ob, rfl, hb1, hb2, hb, hbr⟩ := hg.rowAt'
    clear hf hg
    unfold maxLen at ha2 hb2
    have HA := Lib.hid ha
    have HB := Lib.hid hb
    have HAR := Lib.hid har
    have HBR := Lib.hid hbr
    clear ha hb har hbr
    have hl1 : ((f.len : Int) != (f.len : Int)) = false := by simp
    have hl2 : ((f.len : Int) == (f.len : Int)) = true := by simp
    go_enter Tryd.func13, Tryd.ntmps13
    go_wp2_with fail
    go_loopg [5] f.len (fun q i wr => ∃ (k : Nat) (r : F), i = .int .i64 k ∧ k + r.len = f.len ∧ q = r.len ∧ (∃ nq, wr = w.drewN nq) ∧
        Hid (RowAt D wr ba r (oa + k * 4)) ∧ Hid (RowAt D' wr bb r (ob + k * 4)) ∧ r.size ≤ f.size)
    case atStart => exact ⟨0, f, rfl, by omega, rfl, ⟨0, rfl⟩, by rw [Nat.zero_mul, Nat.add_zero]; exact HAR, by rw [Nat.zero_mul, Nat.add_zero]; exact HBR, Nat.le_refl _⟩
    case round =>
      obtain ⟨k, r, rfl, hk, rfl, hwr, HAR, HBR, hsr⟩ := hrel
      have HWR := Lib.hid hwr
      clear hwr
      cases r with
      | nil =>
        simp only [F.len] at hk
        have hkd : decide ((k : Int) < (f.len : Int)) = false := by simp; omega
        go_wp2_with fail
        go_ret
        exact ⟨rfl, HWR.out⟩
      | cons wd rw1 p1 kd t =>
        simp only [F.len] at hk
        obtain ⟨rfl, _⟩ := HA.out (by omega)
        obtain ⟨rfl, _⟩ := HB.out (by omega)
        obtain ⟨a0, ⟨av, a1, asl⟩, a2, a3, _, ar⟩ := HAR.out
        obtain ⟨b0, ⟨bv, b1, bsl⟩, b2, b3, _, br⟩ := HBR.out
        have AR := Lib.hid ar
        have BR := Lib.hid br
        clear ar br
        have hk0 : (0 : Int) ≤ (k : Int) := by omega
        have hk1 : (k : Int) < (f.len : Int) := by omega
        have hw1 : (wd.toList == wd.toList) = true := by simp
        have hw2 : (wd.toList != wd.toList) = false := by simp
        have hself1 : (rw1 == rw1) = true := by simp
        have hself2 : (rw1 != rw1) = false := by simp
        have hp1 : (p1 == p1) = true := by simp
        have hp2 : (p1 != p1) = false := by simp
        have hkd : kd.size < n := by simp only [F.size] at hsr; omega
        have HC : Hid (∀ m, Calls Tryd.prog 13 #[av, bv] (wr.drewN m) fun e w' => e = .returned (.bool true) ∧ ∃ n, w' = (wr.drewN m).drewN n) := Lib.hid (fun m => IH.out kd av bv (wr.drewN m) hkd (asl.drewN m) (bsl.drewN m))
        go_wp2_with fail
        go_quiet ((go_at_call 13; refine Calls.quiet_of (HC.out _)))
        go_wp2_with fail
        go_roundg t.len
        case measure => simp only [F.len]; omega
        case rel =>
          refine ⟨k + 1, t, by simp, by omega, rfl, ?_, ?_, ?_, by simp only [F.size] at hsr; omega⟩
          · obtain ⟨m, rfl⟩ := HWR.out
            exact ⟨m + nq, by simp⟩
          · have := AR.out.drewN nq
            rw [show oa + k * 4 + 4 = oa + (k + 1) * 4 by omega] at this
            exact this
          · have := BR.out.drewN nq
            rw [show ob + k * 4 + 4 = ob + (k + 1) * 4 by omega] at this
            exact this

set_option maxHeartbeats 1000000 in
theorem parses_any (s : ByteArray) (w : World) (hm : s.size ≤ maxLen) : Calls Tryd.prog 4 #[.string s] w fun e w' => e = .returned (.bool true) ∧ Ext (fun _ => False) w w' := by
  have p1 := fun w => parse_any s w hm
  have p2 := fun w => ref_any s w hm
  generalize parseS s = r at *
  obtain ⟨f, n, e⟩ := r
  have P1 := Lib.hid p1
  have P2 := Lib.hid p2
  clear p1 p2
  have h1 : ((n : Int) == (n : Int)) = true := by simp
  have h2 : (e == e) = true := by simp
  go_enter Tryd.func4, Tryd.ntmps4
  go_wp2_with fail
  refine (P1.out _).mono ?_
  rintro e1 w1 ⟨hx1, va, rfl, hsa⟩
  go_wp2_with fail
  refine (P2.out _).mono ?_
  rintro e2 w2 ⟨hx2, vb, rfl, hsb⟩
  replace hsa := hsa.ext hx2 (fun _ _ h => h)
  have hx := hx1.trans' hx2
  clear hx1 hx2
  have HC := Lib.hid (same_calls _ _ (f.size + 1) f va vb w2 (by omega) hsa hsb)
  clear hsa hsb
  go_wp2_with fail
  refine HC.out.mono ?_
  rintro e3 w3 ⟨rfl, nq, rfl⟩
  go_wp2_with fail
  go_ret
  exact ⟨rfl, hx.drewN nq⟩

end Go.Proofs.YthiaikbdghmnbaaDoor
