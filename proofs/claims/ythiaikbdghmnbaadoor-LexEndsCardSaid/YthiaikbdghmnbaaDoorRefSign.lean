/- Walk: the reference's sign. -/
import Derived.Test.YthiaikbdghmnbaaDoorRefMem
namespace Go.Proofs.YthiaikbdghmnbaaDoor
open Go.RowKit

theorem get_mem {l : ByteArray} {k : Nat} (h : k < l.size) : l[k] ∈ l.data.toList := by
  have : l[k] = l.data.toList[k]'(by simpa using h) := rfl
  rw [this]; exact List.getElem_mem _

set_option maxHeartbeats 1000000 in
theorem refSign_any (c : UInt8) (w : World) :
    Calls Tryd.prog 33 #[.int .u8 (c.toNat : Int)] w fun e w' => e = .returned (.bool (isSign c)) ∧ w = w' := by
  have e0 : isSign c = ((decide ((97 : Int) ≤ (c.toNat : Int)) && decide ((c.toNat : Int) ≤ 122)) || (decide ((48 : Int) ≤ (c.toNat : Int)) && decide ((c.toNat : Int) ≤ 57)) || decide (c ∈ others.data.toList)) := by
    rw [isSign_int]
    have h := indexByte_nonneg c [95, 45, 46, 43, 42, 47, 61, 60, 62]
    have h2 : decide ((0 : Int) ≤ Lib.indexByte [95, 45, 46, 43, 42, 47, 61, 60, 62] c) = decide (c ∈ others.data.toList) := by simp only [h]; rfl
    rw [h2]
  generalize isSign c = r at e0
  by_cases hl : (97 : Int) ≤ (c.toNat : Int) ∧ (c.toNat : Int) ≤ 122
  · obtain ⟨h1, h2⟩ := hl
    have E0 := Lib.hid e0
    clear e0
    go_enter Tryd.func33, Tryd.ntmps33
    go_wp2_with fail
    go_ret
    have := E0.out
    simp [h1, h2] at this
    exact ⟨by rw [this]; rfl, rfl⟩
  · by_cases hdg : (48 : Int) ≤ (c.toNat : Int) ∧ (c.toNat : Int) ≤ 57
    · obtain ⟨h1, h2⟩ := hdg
      have h3 : ¬ (97 : Int) ≤ (c.toNat : Int) := by omega
      have E0 := Lib.hid e0
      clear e0 hl
      go_enter Tryd.func33, Tryd.ntmps33
      go_wp2_with fail
      go_ret
      have := E0.out
      simp [h1, h2] at this
      exact ⟨by rw [this]; rfl, rfl⟩
    · have e1 : r = decide (c ∈ others.data.toList) := by
        have n1 : (decide ((97 : Int) ≤ (c.toNat : Int)) && decide ((c.toNat : Int) ≤ 122)) = false := by simp; omega
        have n2 : (decide ((48 : Int) ≤ (c.toNat : Int)) && decide ((c.toNat : Int) ≤ 57)) = false := by simp; omega
        rw [e0, n1, n2]; simp
      have E1 := Lib.hid e1
      clear e0 e1
      by_cases a1 : (97 : Int) ≤ (c.toNat : Int) <;> by_cases a2 : (48 : Int) ≤ (c.toNat : Int) <;> try omega
      all_goals
        first
        | (have b1 : ¬ (c.toNat : Int) ≤ 122 := by omega)
        | skip
        first
        | (have b2 : ¬ (c.toNat : Int) ≤ 57 := by omega)
        | skip
        clear hl hdg
        go_enter Tryd.func33, Tryd.ntmps33
        go_wp2_with fail
        have hL : ∃ L, L = others := ⟨_, rfl⟩
        obtain ⟨L, hL⟩ := hL
        rw [← hL] at E1
        have hL9 : L.size = 9 := by rw [hL]; rfl
        change Code.wp _ _ _ (Act.mk _ _) _
        rw [show ({ data := #[95, 45, 46, 43, 42, 47, 61, 60, 62] } : ByteArray) = L from hL.symm]
        have HL := Lib.hid hL
        clear hL
        go_loopg [4] 9 (fun q i wr => ∃ k : Nat, i = .int .i64 k ∧ k ≤ 9 ∧ q = 9 - k ∧ wr = w ∧ Hid (∀ (j : Nat) (h : j < L.size), j < k → L[j] ≠ c))
        case atStart => exact ⟨0, rfl, by omega, rfl, rfl, Lib.hid (fun j h hj => by omega)⟩
        case round =>
          obtain ⟨k, rfl, hk, rfl, rfl, HM⟩ := hrel
          by_cases hk9 : k < 9
          · have i1 : (k : Int) < (L.size : Int) := by omega
            have i0 : (0 : Int) ≤ (k : Int) := by omega
            have i2 : k < L.size := by omega
            by_cases hc : ((L[k].toNat : Nat) : Int) = (c.toNat : Int)
            · have hcb : (((L[k].toNat : Nat) : Int) == (c.toNat : Int)) = true := by simpa using hc
              go_wp2_with fail
              go_ret
              refine ⟨?_, rfl⟩
              have hh : L[k] = c := UInt8.toNat_inj.1 (by omega)
              have hm := get_mem i2
              rw [hh, HL.out] at hm
              have := E1.out
              rw [HL.out] at this
              rw [this]
              simp [hm]
            · have hcb : (((L[k].toNat : Nat) : Int) == (c.toNat : Int)) = false := by simpa using hc
              go_wp2_with fail
              go_roundg (9 - (k + 1))
              case measure => omega
              case rel =>
                refine ⟨k + 1, by simp, by omega, rfl, rfl, Lib.hid ?_⟩
                intro j hj hjk
                by_cases hjk' : j < k
                · exact HM.out j hj hjk'
                · obtain rfl : j = k := by omega
                  intro he
                  exact hc (by rw [he])
          · obtain rfl : k = 9 := by omega
            have i1 : ¬ ((9 : Int) < (L.size : Int)) := by omega
            go_wp2_with fail
            go_ret
            have hd : decide (c ∈ L.data.toList) = false := by
              rw [decide_eq_false_iff_not]
              intro hm
              obtain ⟨j, hj, he⟩ := List.getElem_of_mem hm
              have hj' : j < L.size := by rw [Lib.size_eq]; exact hj
              exact HM.out j hj' (by omega) he
            exact ⟨by rw [E1.out, hd]; rfl, rfl⟩

end Go.Proofs.YthiaikbdghmnbaaDoor
