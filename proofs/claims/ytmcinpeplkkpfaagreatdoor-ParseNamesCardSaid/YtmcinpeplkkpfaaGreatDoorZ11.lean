/- Texts put together by wip/shake.py: PDec: the walks and the laws that the claim's last theorem rests on. -/
import Derived.Test.YtmcinpeplkkpfaaGreatDoorZ10
import Derived.Lib.ParseIntB
namespace Go.Proofs.YtmcinpeplkkpfaaGreatDoor
open Go.RowKit
set_option linter.unusedVariables false
theorem decL_acc : ∀ (l : List UInt8) (a : Nat), l.foldl (fun n c => 10 * n + (c.toNat - 48)) a = a * 10 ^ l.length + decL l
  | [], a => by simp [decL]
  | c :: l, a => by
    unfold decL
    rw [List.foldl_cons, List.foldl_cons, decL_acc l, decL_acc l, List.length_cons, Nat.pow_succ]
    have h : (10 * a + (c.toNat - 48)) * 10 ^ l.length = a * (10 ^ l.length * 10) + (c.toNat - 48) * 10 ^ l.length := by
      rw [Nat.add_mul, Nat.mul_comm (10 ^ l.length) 10, ← Nat.mul_assoc, Nat.mul_comm 10 a]
    rw [h]
    simp only [Nat.mul_zero, Nat.zero_add]
    omega

theorem decL_app (p q : List UInt8) : decL (p ++ q) = decL p * 10 ^ q.length + decL q := by
  have h : decL (p ++ q) = q.foldl (fun n c => 10 * n + (c.toNat - 48)) (decL p) := by unfold decL; rw [List.foldl_append]
  rw [h, decL_acc]

theorem digit_iff (c : UInt8) : digit c = true ↔ 48 ≤ c.toNat ∧ c.toNat ≤ 57 := by
  simp only [digit, Bool.and_eq_true, decide_eq_true_eq, UInt8.le_iff_toNat_le]
  simp only [show (48 : UInt8).toNat = 48 from rfl, show (57 : UInt8).toNat = 57 from rfl]

theorem decL_lt : ∀ (l : List UInt8), l.all digit = true → decL l < 10 ^ l.length
  | [], _ => by simp [decL]
  | c :: l, h => by
    rw [List.all_cons, Bool.and_eq_true] at h
    have hc := (digit_iff c).1 h.1
    have ih := decL_lt l h.2
    have e := decL_app [c] l
    rw [List.singleton_append] at e
    have e1 : decL [c] = c.toNat - 48 := by simp [decL]
    rw [e, e1, List.length_cons, Nat.pow_succ]
    have : (c.toNat - 48) * 10 ^ l.length ≤ 9 * 10 ^ l.length := Nat.mul_le_mul_right _ (by omega)
    omega

theorem parse_digits (M : Nat) : ∀ (l : List UInt8) (a : Nat), l.all digit = true → a * 10 ^ l.length + decL l ≤ 1000000000000000000 → 1000000000000000000 ≤ M → Lib.parseUintM M a l = .ok (a * 10 ^ l.length + decL l)
  | [], a, _, _, _ => by simp [Lib.parseUintM, decL]
  | c :: l, a, h, hb, hM => by
    rw [List.all_cons, Bool.and_eq_true] at h
    have hc := (digit_iff c).1 h.1
    have e := decL_app [c] l
    rw [List.singleton_append] at e
    have e1 : decL [c] = c.toNat - 48 := by simp [decL]
    rw [e, e1, List.length_cons, Nat.pow_succ] at hb
    have h1 : (a * 10 + (c.toNat - 48)) * 10 ^ l.length = a * (10 ^ l.length * 10) + (c.toNat - 48) * 10 ^ l.length := by
      rw [Nat.add_mul, Nat.mul_comm (10 ^ l.length) 10, Nat.mul_assoc]
    have hp : 1 ≤ 10 ^ l.length := Nat.one_le_pow _ _ (by decide)
    have hsmall : a * 10 + (c.toNat - 48) ≤ 1000000000000000000 := by
      have := Nat.mul_le_mul_left (a * 10 + (c.toNat - 48)) hp
      omega
    rw [Lib.parseUintM, if_pos hc, if_neg (by omega), if_neg (by omega), parse_digits M l _ h.2 (by omega) hM, e, e1, List.length_cons, Nat.pow_succ, h1]
    congr 1
    omega

theorem parse_chunk (l : List UInt8) (h : l.all digit = true) (h0 : l ≠ []) (h9 : l.length ≤ 9) : Lib.parseUintB 64 l = .ok (decL l) := by
  have hlt := decL_lt l h
  have hp : 10 ^ l.length ≤ 10 ^ 9 := Nat.pow_le_pow_right (by decide) h9
  unfold Lib.parseUintB
  rw [if_neg h0, parse_digits _ l 0 h (by omega) (by decide)]
  simp

theorem valD_app : ∀ (l m : List Nat), valD (l ++ m) = valD l + base9 ^ l.length * valD m
  | [], m => by simp [valD]
  | d :: l, m => by
    rw [List.cons_append, valD, valD, valD_app l m, List.length_cons, Nat.pow_succ, Nat.mul_add, Nat.mul_comm (base9 ^ l.length) base9, Nat.mul_assoc]
    omega

theorem isDec_iff (l : List UInt8) : isDec l = true ↔ l ≠ [] ∧ l.all digit = true ∧ ¬ (1 < l.length ∧ l.head? = some 48) := by
  match l with
  | [] => simp [isDec]
  | [c] => simp [isDec]
  | c :: d :: l => simp [isDec]; exact ⟨fun h => ⟨h.2, h.1⟩, fun h => ⟨h.2, h.1⟩⟩

set_option maxRecDepth 100000 in
set_option maxHeartbeats 400000 in
theorem decimal_any (s : ByteArray) (w : World) (hs : s.size ≤ 100000000) :
    Calls Tryz.prog 220 #[.string s] w fun e w' => e = .returned (.bool (s.data.toList.all digit)) ∧ w = w' := by
  obtain ⟨bb, hbb⟩ : ∃ bb, bb = s.data.toList.all digit := ⟨_, rfl⟩
  rw [← hbb]
  have HB := Lib.hid hbb
  clear hbb
  go_enter Tryz.func220, Tryz.ntmps220
  go_wp2_with fail
  go_loopg [6] s.size (fun q kv wr => ∃ k : Nat, kv = .int .i64 (k : Int) ∧ q = s.size - k ∧ k ≤ s.size ∧ Hid (w = wr) ∧ Hid ((s.data.toList.take k).all digit = true))
  case atStart => exact ⟨0, rfl, by omega, by omega, Lib.hid rfl, Lib.hid (by simp)⟩
  case round =>
    obtain ⟨k, rfl, rfl, hk, HW, HA⟩ := hrel
    obtain rfl := HW.out
    have k0 : (0 : Int) ≤ (k : Int) := by omega
    by_cases hlt : k < s.size
    · have k1 : (k : Int) < (s.size : Int) := by omega
      have HT := Lib.hid (drop_cons hlt)
      have HI := Lib.hid (digit_iff s[k])
      have HS : Hid (s.data.toList.take (k + 1) = s.data.toList.take k ++ [s[k]]) := Lib.hid (by rw [List.take_succ_eq_append_getElem (by simpa using hlt)]; rfl)
      have HM : Hid (s[k] ∈ s.data.toList) := Lib.hid (by
        have h : s.data.toList[k]'(by simpa using hlt) ∈ s.data.toList := List.getElem_mem _
        exact h)
      have hcell : ∀ h : k < s.size, s[k] = s[k] := fun _ => rfl
      clear hcell
      by_cases h48 : (s[k].toNat : Int) < 48
      · go_wp2_with fail
        go_ret
        refine ⟨?_, rfl⟩
        have : s.data.toList.all digit = false := by
          rw [Bool.eq_false_iff]
          intro h
          have := (HI.out.1 (List.all_eq_true.1 h _ HM.out)).1
          omega
        rw [HB.out.trans this]; rfl
      · have h48' : decide ((s[k].toNat : Int) < 48) = false := by simp; omega
        by_cases h57 : (57 : Int) < (s[k].toNat : Int)
        · go_wp2_with fail
          go_ret
          refine ⟨?_, rfl⟩
          have : s.data.toList.all digit = false := by
            rw [Bool.eq_false_iff]
            intro h
            have := (HI.out.1 (List.all_eq_true.1 h _ HM.out)).2
            omega
          rw [HB.out.trans this]; rfl
        · have h57' : decide ((57 : Int) < (s[k].toNat : Int)) = false := by simp; omega
          have hd := Lib.hid (HI.out.2 ⟨by omega, by omega⟩)
          go_wp2_with fail
          go_roundg (s.size - (k + 1))
          case measure => omega
          case rel => exact ⟨k + 1, congrArg (Value.int .i64) (by omega), rfl, by omega, Lib.hid rfl, Lib.hid (by rw [HS.out, List.all_append, HA.out, List.all_cons, hd.out]; rfl)⟩
    · obtain rfl : k = s.size := by omega
      have kd : decide ((s.size : Int) < (s.size : Int)) = false := by simp
      have ha := HA.out
      rw [List.take_of_length_le (by rw [← Lib.size_eq]; omega)] at ha
      have HA2 := Lib.hid ha
      clear ha
      go_wp2_with fail
      go_ret
      exact ⟨by rw [HB.out.trans HA2.out]; rfl, rfl⟩

end Go.Proofs.YtmcinpeplkkpfaaGreatDoor
