/- Walks: shape, Deep. -/
import Derived.Test.YthiaikbdghmnbaaRead
import Derived.Test.YthiaikbdghmnbaaRows
import Derived.Deep.LoopGhost
import Derived.IntWalk
import Derived.BigQuiet
namespace Go.Proofs.Ythiaikbdghmnbaa
open Go.RowKit

namespace F
def size : F → Nat | .nil => 0 | .cons _ _ _ k t => k.size + t.size + 1
/-- The same but for places? -/
def shape : F → F → Bool
  | .nil, .nil => true
  | .cons wd r _ k t, .cons wd' r' _ k' t' => wd.data.toList == wd'.data.toList && r == r' && k.shape k' && t.shape t'
  | _, _ => false
/-- How many rows stand within each other. -/
def deep : F → Nat
  | .nil => 0
  | .cons _ r _ k t => max (if r then k.deep + 1 else 0) t.deep
theorem shape_len : ∀ {f g : F}, f.shape g = true → f.len = g.len
  | .nil, .nil, _ => rfl
  | .cons _ _ _ _ t, .cons _ _ _ _ t', h => by
    simp only [shape, Bool.and_eq_true] at h
    simp [len, shape_len h.2]
  | .nil, .cons _ _ _ _ _, h => by cases h
  | .cons _ _ _ _ _, .nil, h => by cases h
theorem len_le_size : ∀ f : F, f.len ≤ f.size
  | .nil => Nat.le_refl _
  | .cons _ _ _ k t => by have := len_le_size t; simp [len, size]; omega
end F

set_option maxRecDepth 100000 in
set_option maxHeartbeats 2000000 in
theorem shape_calls (D D' : Nat → Prop) : ∀ (n : Nat) (f g : F) (va vb : Value) (w : World), f.size < n → Sl D w va f → Sl D' w vb g →
    Calls Try.prog 10 #[va, vb] w fun e w' => e = .returned (.bool (f.shape g)) ∧ ∃ n, w' = w.drewN n := by
  intro n
  induction n with
  | zero => intro f g va vb w h; omega
  | succ n ih =>
    intro f g va vb w hsz hf hg
    have IH := Lib.hid ih
    clear ih
    obtain ⟨a, cap, ba, oa, rfl, ha1, ha2, ha, har⟩ := hf.rowAt'
    obtain ⟨b, cap', bb, ob, rfl, hb1, hb2, hb, hbr⟩ := hg.rowAt'
    clear hf hg
    unfold maxLen at ha2 hb2
    by_cases hlen : f.len = g.len
    · have hl1 : ((f.len : Int) != (g.len : Int)) = false := by simp [hlen]
      have hl2 : ((f.len : Int) == (g.len : Int)) = true := by simp [hlen]
      generalize hres : f.shape g = res
      have HR := Lib.hid hres
      have HA := Lib.hid ha
      have HB := Lib.hid hb
      have HAR := Lib.hid har
      have HBR := Lib.hid hbr
      have HL := Lib.hid hlen
      clear hres ha hb har hbr hlen
      go_enter Try.func10, Try.ntmps10
      go_wp2_with fail
      go_loopg [5] f.len (fun q i wr => ∃ (k : Nat) (r r' : F), i = .int .i64 k ∧ k + r.len = f.len ∧ q = r.len ∧ r.len = r'.len ∧ (∃ nq, wr = w.drewN nq) ∧
          Hid (RowAt D wr ba r (oa + k * 4)) ∧ Hid (RowAt D' wr bb r' (ob + k * 4)) ∧ Hid (r.shape r' = res) ∧ r.size ≤ f.size)
      case atStart => exact ⟨0, f, g, rfl, by omega, rfl, HL.out, ⟨0, rfl⟩, by rw [Nat.zero_mul, Nat.add_zero]; exact HAR, by rw [Nat.zero_mul, Nat.add_zero]; exact HBR, HR.out, Nat.le_refl _⟩
      case round =>
        obtain ⟨k, r, r', rfl, hk, rfl, hrr, hwr, HAR, HBR, HS, hsr⟩ := hrel
        have HWR := Lib.hid hwr
        clear hwr
        cases r with
        | nil =>
          simp only [F.len] at hk hrr
          have hk' : k = f.len := by omega
          have hkd : decide ((k : Int) < (f.len : Int)) = false := by simp; omega
          obtain rfl : r' = .nil := by
            cases r' with
            | nil => rfl
            | cons _ _ _ _ _ => simp [F.len] at hrr
          obtain rfl : true = res := HS.out
          clear hk'
          go_wp2_with fail
          go_ret
          exact ⟨rfl, HWR.out⟩
        | cons wd rw1 p1 kd t =>
          cases r' with
          | nil => simp [F.len] at hrr
          | cons wd' rw2 p2 kd' t' =>
            simp only [F.len] at hk hrr
            obtain ⟨rfl, _⟩ := HA.out (by omega)
            obtain ⟨rfl, _⟩ := HB.out (by have := HL.out; omega)
            obtain ⟨a0, ⟨av, a1, asl⟩, a2, a3, _, ar⟩ := HAR.out
            obtain ⟨b0, ⟨bv, b1, bsl⟩, b2, b3, _, br⟩ := HBR.out
            have AR := Lib.hid ar
            have BR := Lib.hid br
            clear ar br
            simp only [F.shape] at HS
            have hk0 : (0 : Int) ≤ (k : Int) := by omega
            have hk1 : (k : Int) < (f.len : Int) := by omega
            have hk2 : (k : Int) < (g.len : Int) := by have := HL.out; omega
            by_cases hw : wd.data.toList = wd'.data.toList
            · have hw1 : (wd.toList == wd'.toList) = true := by rw [ByteArray.toList_eq, ByteArray.toList_eq]; simpa using hw
              have hw2 : (wd.toList != wd'.toList) = false := by simp [bne, hw1]
              have HW := Lib.hid hw
              clear hw
              by_cases hr2 : rw1 = rw2
              · subst hr2
                have hself1 : (rw1 == rw1) = true := by simp
                have hself2 : (rw1 != rw1) = false := by simp
                have hkd : kd.size < n := by simp only [F.size] at hsr; omega
                by_cases hsh : kd.shape kd' = true
                · have HC : Hid (∀ m, Calls Try.prog 10 #[av, bv] (wr.drewN m) fun e w' => e = .returned (.bool true) ∧ ∃ n, w' = (wr.drewN m).drewN n) := fun m => by
                    have := IH.out kd kd' av bv (wr.drewN m) hkd (asl.drewN m) (bsl.drewN m)
                    rw [hsh] at this; exact this
                  have hs2 : t.shape t' = res := by rw [← HS.out]; simp [HW.out, hsh]
                  have HS2 := Lib.hid hs2
                  clear HS hsh hs2
                  go_wp2_with fail
                  go_quiet ((go_at_call 10; refine Calls.quiet_of (HC.out _)))
                  go_wp2_with fail
                  go_roundg t.len
                  case measure => simp only [F.len]; omega
                  case rel =>
                    refine ⟨k + 1, t, t', by simp, by omega, rfl, by omega, ?_, ?_, ?_, HS2, by simp only [F.size] at hsr; omega⟩
                    · obtain ⟨m, rfl⟩ := HWR.out
                      exact ⟨m + nq, by simp⟩
                    · have := AR.out.drewN nq
                      rw [show oa + k * 4 + 4 = oa + (k + 1) * 4 by omega] at this
                      exact this
                    · have := BR.out.drewN nq
                      rw [show ob + k * 4 + 4 = ob + (k + 1) * 4 by omega] at this
                      exact this
                · have hsf : kd.shape kd' = false := by simpa using hsh
                  have HC : Hid (∀ m, Calls Try.prog 10 #[av, bv] (wr.drewN m) fun e w' => e = .returned (.bool false) ∧ ∃ n, w' = (wr.drewN m).drewN n) := fun m => by
                    have := IH.out kd kd' av bv (wr.drewN m) hkd (asl.drewN m) (bsl.drewN m)
                    rw [hsf] at this; exact this
                  obtain rfl : false = res := by rw [← HS.out]; simp only [HW.out, hsf]; simp
                  clear HS hsh hsf
                  go_wp2_with fail
                  go_quiet ((go_at_call 10; refine Calls.quiet_of (HC.out _)))
                  go_wp2_with fail
                  go_ret
                  obtain ⟨m, rfl⟩ := HWR.out
                  exact ⟨rfl, m + nq, by simp⟩
              · have hr3 : (rw1 == rw2) = false := by simpa using hr2
                have hr4 : (rw1 != rw2) = true := by simpa using hr2
                obtain rfl : false = res := by rw [← HS.out, hr3]; simp
                clear hr2
                go_wp2_with fail
                go_quiet (fail)
                go_wp2_with fail
                go_ret
                obtain ⟨m, rfl⟩ := HWR.out
                exact ⟨rfl, m + nq, by simp⟩
            · have hw1 : (wd.toList == wd'.toList) = false := by rw [ByteArray.toList_eq, ByteArray.toList_eq]; simpa using hw
              have hw2 : (wd.toList != wd'.toList) = true := by simp [bne, hw1]
              obtain rfl : false = res := by rw [← HS.out]; simp only [beq_eq_false_iff_ne.2 hw, Bool.false_and]
              clear hw
              go_wp2_with fail
              go_quiet (fail)
              go_wp2_with fail
              go_ret
              obtain ⟨m, rfl⟩ := HWR.out
              exact ⟨rfl, m + nq, by simp⟩
    · have hres : f.shape g = false := by
        cases h : f.shape g with
        | false => rfl
        | true => exact absurd (F.shape_len h) hlen
      rw [hres]
      have hl1 : ((f.len : Int) != (g.len : Int)) = true := by simp [bne]; omega
      have hl2 : ((f.len : Int) == (g.len : Int)) = false := by simp; omega
      clear hlen
      go_enter Try.func10, Try.ntmps10
      go_wp2_with fail
      go_ret
      exact ⟨rfl, 0, rfl⟩

theorem shape_any {D D' : Nat → Prop} {f g : F} {va vb : Value} {w : World} (hf : Sl D w va f) (hg : Sl D' w vb g) :
    Calls Try.prog 10 #[va, vb] w fun e w' => e = .returned (.bool (f.shape g)) ∧ ∃ n, w' = w.drewN n := shape_calls D D' (f.size + 1) f g va vb w (by omega) hf hg

end Go.Proofs.Ythiaikbdghmnbaa
