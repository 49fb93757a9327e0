/- Walks: the reader's small functions (more, must, blank, sign, while). -/
import Derived.Test.YthiaikbdghmnbaaDoorRows
import Derived.Test.YthiaikbdghmnbaaDoorLexSpec
import Derived.Defers
import Derived.Recover
import Derived.BigQuiet
import Derived.Deep.LoopGhost
import Derived.IntWalk
namespace Go.Proofs.YthiaikbdghmnbaaDoor
open Go.RowKit

/-- A reader in memory: block br holds its text, its place, how many brackets are open. -/
def RD (w : World) (br : Nat) (s : ByteArray) (at_ op : Nat) : Prop := Blk w br #[.string s, .int .i64 at_, .int .i64 op] 65

theorem RD.c0 {w : World} {br : Nat} {s : ByteArray} {at_ op : Nat} (h : RD w br s at_ op) : w.cell? ⟨br, 0, none⟩ = some (.string s) := Blk.cell h 0
theorem RD.c1 {w : World} {br : Nat} {s : ByteArray} {at_ op : Nat} (h : RD w br s at_ op) : w.cell? ⟨br, 1, none⟩ = some (.int .i64 at_) := Blk.cell h 1
theorem RD.c2 {w : World} {br : Nat} {s : ByteArray} {at_ op : Nat} (h : RD w br s at_ op) : w.cell? ⟨br, 2, none⟩ = some (.int .i64 op) := Blk.cell h 2

theorem RD.at {w : World} {br : Nat} {s : ByteArray} {at_ op : Nat} (h : RD w br s at_ op) (v : Int) (k : Nat) (hv : v = k) : RD (w.setCell ⟨br, 1, none⟩ (.int .i64 v)) br s k op := by
  subst hv; exact Blk.set h 1 _
theorem RD.open {w : World} {br : Nat} {s : ByteArray} {at_ op : Nat} (h : RD w br s at_ op) (v : Int) (k : Nat) (hv : v = k) : RD (w.setCell ⟨br, 2, none⟩ (.int .i64 v)) br s at_ k := by
  subst hv; exact Blk.set h 2 _

set_option maxHeartbeats 400000 in
theorem more_any (br : Nat) (s : ByteArray) (at_ op : Nat) (w : World) (h : RD w br s at_ op) :
    Calls Tryd.prog 26 #[.pointer (some ⟨br, 0, none⟩)] w fun e w' => e = .returned (.bool (decide (at_ < s.size))) ∧ ∃ n, w' = w.drewN n := by
  have h1 := h.c0
  have h2 := h.c1
  clear h
  go_enter Tryd.func26, Tryd.ntmps26
  go_wp2
  go_quiet (fail)
  go_wp2
  go_ret
  exact ⟨by simp, _, rfl⟩

theorem more_yes (br : Nat) (s : ByteArray) (at_ op : Nat) (w : World) (h : RD w br s at_ op) (hlt : at_ < s.size) :
    Calls Tryd.prog 26 #[.pointer (some ⟨br, 0, none⟩)] w fun e w' => e = .returned (.bool true) ∧ ∃ n, w' = w.drewN n :=
  (more_any br s at_ op w h).mono fun _ _ ⟨he, hw⟩ => ⟨by rw [he, decide_eq_true hlt], hw⟩
theorem more_no (br : Nat) (s : ByteArray) (at_ op : Nat) (w : World) (h : RD w br s at_ op) (hge : s.size ≤ at_) :
    Calls Tryd.prog 26 #[.pointer (some ⟨br, 0, none⟩)] w fun e w' => e = .returned (.bool false) ∧ ∃ n, w' = w.drewN n :=
  (more_any br s at_ op w h).mono fun _ _ ⟨he, hw⟩ => ⟨by rw [he, decide_eq_false (by omega)], hw⟩

def faultChain (at_ : Nat) (e : Int) : List PanicEntry := [{ v := .iface 59 (.agg #[.int .i64 at_, .int .i64 e]), recovered := false }]

set_option maxHeartbeats 400000 in
theorem must_yes (br : Nat) (e : Int) (w : World) :
    Calls Tryd.prog 25 #[.pointer (some ⟨br, 0, none⟩), .bool true, .int .i64 e] w fun e w' => e = .returned (.tuple #[]) ∧ w = w' := by
  go_enter Tryd.func25, Tryd.ntmps25
  go_wp2
  go_end0
  exact ⟨rfl, rfl⟩

set_option maxHeartbeats 400000 in
theorem must_no (br : Nat) (s : ByteArray) (at_ op : Nat) (er : Int) (w : World) (h : RD w br s at_ op) :
    Calls Tryd.prog 25 #[.pointer (some ⟨br, 0, none⟩), .bool false, .int .i64 er] w fun e w' => e = .panicked (faultChain at_ er) ∧ w = w' := by
  have h2 := h.c1
  clear h
  go_enter Tryd.func25, Tryd.ntmps25
  go_wp2
  exact ⟨rfl, rfl, rfl⟩

set_option maxHeartbeats 400000 in
theorem blank_any (c : UInt8) (w : World) :
    Calls Tryd.prog 45 #[.int .u8 (c.toNat : Int)] w fun e w' => e = .returned (.bool (isBlank c)) ∧ w = w' := by
  have e1 : isBlank c = (((c.toNat : Int) == 32) || ((c.toNat : Int) == 10)) := by
    unfold isBlank; rw [Bool.eq_iff_iff]; simp [← UInt8.toNat_inj]; omega
  rw [e1]; clear e1
  by_cases h : ((c.toNat : Int) == 32) = true
  · go_enter Tryd.func45, Tryd.ntmps45
    go_wp2
    go_ret
    exact ⟨by simp [h], rfl⟩
  · have h' : ((c.toNat : Int) == 32) = false := by simpa using h
    clear h
    go_enter Tryd.func45, Tryd.ntmps45
    go_wp2
    go_ret
    exact ⟨by simp [h'], rfl⟩

theorem indexByte_nonneg (c : UInt8) : ∀ l : List UInt8, 0 ≤ Lib.indexByte l c ↔ c ∈ l
  | [] => by simp [Lib.indexByte]
  | b :: l => by
    have ih := indexByte_nonneg c l
    have hg := Lib.indexByte_ge l c
    unfold Lib.indexByte
    by_cases h : (b == c) = true
    · simp [h]; simp at h; simp [h]
    · have h' : ¬ b = c := by simpa using h
      simp only [h, Bool.false_eq_true, if_false]
      by_cases h2 : Lib.indexByte l c = -1
      · simp [h2]; rw [h2] at ih; simp at ih; exact ⟨fun e => h' e.symm, ih⟩
      · simp [h2]; rw [← ih]; constructor
        · intro _; right; omega
        · rintro (e | e)
          · exact absurd e.symm h'
          · omega

theorem sl_index_any (c : UInt8) (s : ByteArray) (w : World) :
    Calls Tryd.prog 50 #[.string s, .int .u8 (c.toNat : Int)] w fun e w' => e = .returned (.int .i64 (Lib.indexByte s.data.toList c)) ∧ w = w' := by
  have hr : (callFunc 55 #[.string s, .int .u8 (c.toNat : Int)]).run Tryd.prog w = .ok (.value (.int .i64 (Lib.indexByte s.data.toList c))) w := by
    rw [run_callFunc_extern Tryd.func55 (by kernel_rfl) (by kernel_rfl) (by kernel_rfl) (e := Extern.BytealgIndexByte.indexByte) (by kernel_rfl), Lib.run_indexByteString]
    simp [Result.andThen]
  go_enter Tryd.func50, Tryd.ntmps50
  go_wp2
  go_ret
  exact ⟨rfl, rfl⟩

theorem index_any (c : UInt8) (s : ByteArray) (w : World) :
    Calls Tryd.prog 57 #[.string s, .int .u8 (c.toNat : Int)] w fun e w' => e = .returned (.int .i64 (Lib.indexByte s.data.toList c)) ∧ w = w' := by
  go_enter Tryd.func57, Tryd.ntmps57
  go_wp2_with (go_at_call 50; refine (sl_index_any _ _ _).mono ?_; rintro e w' ⟨rfl, rfl⟩)
  go_ret
  exact ⟨rfl, rfl⟩

def others : ByteArray := ⟨#[95, 45, 46, 43, 42, 47, 61, 60, 62]⟩

theorem isSign_int (c : UInt8) : isSign c = ((decide ((97 : Int) ≤ (c.toNat : Int)) && decide ((c.toNat : Int) ≤ 122)) || (decide ((48 : Int) ≤ (c.toNat : Int)) && decide ((c.toNat : Int) ≤ 57)) || decide ((0 : Int) ≤ Lib.indexByte [95, 45, 46, 43, 42, 47, 61, 60, 62] c)) := by
  have h := indexByte_nonneg c [95, 45, 46, 43, 42, 47, 61, 60, 62]
  have h2 : decide ((0 : Int) ≤ Lib.indexByte [95, 45, 46, 43, 42, 47, 61, 60, 62] c) = decide (c ∈ [95, 45, 46, 43, 42, 47, 61, 60, 62]) := by simp only [h]
  rw [h2, Bool.eq_iff_iff]
  simp only [isSign, Bool.or_eq_true, Bool.and_eq_true, decide_eq_true_eq, beq_iff_eq, UInt8.le_iff_toNat_le, List.mem_cons, List.not_mem_nil, ← UInt8.toNat_inj]
  simp
  omega

set_option maxHeartbeats 1000000 in
theorem sign_any (c : UInt8) (w : World) :
    Calls Tryd.prog 54 #[.int .u8 (c.toNat : Int)] w fun e w' => e = .returned (.bool (isSign c)) ∧ w = w' := by
  rw [isSign_int]
  by_cases h1 : (97 : Int) ≤ (c.toNat : Int) <;> by_cases h2 : (c.toNat : Int) ≤ 122 <;> by_cases h3 : (48 : Int) ≤ (c.toNat : Int) <;> by_cases h4 : (c.toNat : Int) ≤ 57 <;> try omega
  all_goals
    go_enter Tryd.func54, Tryd.ntmps54
    go_wp2_with (go_at_call 57; refine (index_any _ _ _).mono ?_; rintro e w' ⟨rfl, rfl⟩)
    go_ret
    refine ⟨congrArg (fun b => Ending.returned (.bool b)) ?_, rfl⟩
    simp [*] <;> omega

def fnBlank : Value := .func (.func 45) #[] #[]
def fnSign : Value := .func (.func 54) #[] #[]

set_option maxHeartbeats 1000000 in
theorem while_blank (br : Nat) (s : ByteArray) (at_ op : Nat) (w : World) (h : RD w br s at_ op) (hat : at_ ≤ s.size) (hs : s.size ≤ 262144) :
    Calls Tryd.prog 44 #[.pointer (some ⟨br, 0, none⟩), .func (.func 45) #[] #[]] w fun e w' =>
      e = .returned (.string (s.extract at_ (adv isBlank s at_))) ∧ RD w' br s (adv isBlank s at_) op ∧ Ext (· = br) w w' := by
  have h1 := h.c1
  go_enter Tryd.func44, Tryd.ntmps44
  go_wp2
  clear h1
  go_loopg [] (s.size - at_) (fun g wr => ∃ k : Nat, RD wr br s k op ∧ at_ ≤ k ∧ k ≤ s.size ∧ s.size - k ≤ g ∧ adv isBlank s k = adv isBlank s at_ ∧ Ext (· = br) w wr)
  case atStart => exact ⟨at_, h, Nat.le_refl _, hat, Nat.le_refl _, rfl, Ext.refl _ _⟩
  case round =>
    obtain ⟨k, hrd, hk1, hk2, hg, hadv, hext⟩ := hrel
    have c0 := hrd.c0
    have c1 := hrd.c1
    have f1 := Blk.frozen hrd 1
    by_cases hlt : k < s.size
    · by_cases hb : isBlank s[k] = true
      · go_wp2_with fail
        go_quiet (first | (go_at_call 26; refine Calls.quiet_of (more_yes _ s k op _ hrd hlt)) | (go_at_call 45; refine quiet_eq (blank_any _ _)))
        go_wp2
        go_roundg (s.size - (k + 1))
        case measure => omega
        case rel => exact ⟨k + 1, RD.at (Blk.drewN hrd nq) _ _ (by simp), by omega, by omega, Nat.le_refl _, (adv_step isBlank hlt hb).symm.trans hadv, (hext.drewN nq).setCell (fun _ => rfl) _⟩
      · have hb' : isBlank s[k] = false := by simpa using hb
        clear hb
        have HA : Hid (adv isBlank s at_ = k) := hadv.symm.trans (adv_stop isBlank hlt hb')
        clear hadv
        go_wp2_with fail
        go_quiet (first | (go_at_call 26; refine Calls.quiet_of (more_yes _ s k op _ hrd hlt)) | (go_at_call 45; refine quiet_eq (blank_any _ _)))
        go_wp2
        go_quiet (fail)
        go_wp2
        go_ret
        exact ⟨by rw [HA.out]; rfl, by rw [HA.out]; exact hrd, (hext.drewN _).drewN _⟩
    · obtain rfl : k = s.size := by omega
      have HA : Hid (adv isBlank s at_ = s.size) := hadv.symm.trans (adv_end isBlank (Nat.le_refl _))
      clear hadv
      go_wp2_with fail
      go_quiet (first | (go_at_call 26; refine Calls.quiet_of (more_no _ s s.size op _ hrd (Nat.le_refl _))) | (go_at_call 45; refine quiet_eq (blank_any _ _)))
      go_wp2
      go_quiet (fail)
      go_wp2
      go_ret
      exact ⟨by rw [HA.out]; rfl, by rw [HA.out]; exact hrd, (hext.drewN _).drewN _⟩

set_option maxHeartbeats 1000000 in
theorem while_sign (br : Nat) (s : ByteArray) (at_ op : Nat) (w : World) (h : RD w br s at_ op) (hat : at_ ≤ s.size) (hs : s.size ≤ 262144) :
    Calls Tryd.prog 44 #[.pointer (some ⟨br, 0, none⟩), .func (.func 54) #[] #[]] w fun e w' =>
      e = .returned (.string (s.extract at_ (adv isSign s at_))) ∧ RD w' br s (adv isSign s at_) op ∧ Ext (· = br) w w' := by
  have h1 := h.c1
  go_enter Tryd.func44, Tryd.ntmps44
  go_wp2
  clear h1
  go_loopg [] (s.size - at_) (fun g wr => ∃ k : Nat, RD wr br s k op ∧ at_ ≤ k ∧ k ≤ s.size ∧ s.size - k ≤ g ∧ adv isSign s k = adv isSign s at_ ∧ Ext (· = br) w wr)
  case atStart => exact ⟨at_, h, Nat.le_refl _, hat, Nat.le_refl _, rfl, Ext.refl _ _⟩
  case round =>
    obtain ⟨k, hrd, hk1, hk2, hg, hadv, hext⟩ := hrel
    have c0 := hrd.c0
    have c1 := hrd.c1
    have f1 := Blk.frozen hrd 1
    by_cases hlt : k < s.size
    · by_cases hb : isSign s[k] = true
      · go_wp2_with fail
        go_quiet (first | (go_at_call 26; refine Calls.quiet_of (more_yes _ s k op _ hrd hlt)) | (go_at_call 54; refine quiet_eq (sign_any _ _)))
        go_wp2
        go_roundg (s.size - (k + 1))
        case measure => omega
        case rel => exact ⟨k + 1, RD.at (Blk.drewN hrd nq) _ _ (by simp), by omega, by omega, Nat.le_refl _, (adv_step isSign hlt hb).symm.trans hadv, (hext.drewN nq).setCell (fun _ => rfl) _⟩
      · have hb' : isSign s[k] = false := by simpa using hb
        clear hb
        have HA : Hid (adv isSign s at_ = k) := hadv.symm.trans (adv_stop isSign hlt hb')
        clear hadv
        go_wp2_with fail
        go_quiet (first | (go_at_call 26; refine Calls.quiet_of (more_yes _ s k op _ hrd hlt)) | (go_at_call 54; refine quiet_eq (sign_any _ _)))
        go_wp2
        go_quiet (fail)
        go_wp2
        go_ret
        exact ⟨by rw [HA.out]; rfl, by rw [HA.out]; exact hrd, (hext.drewN _).drewN _⟩
    · obtain rfl : k = s.size := by omega
      have HA : Hid (adv isSign s at_ = s.size) := hadv.symm.trans (adv_end isSign (Nat.le_refl _))
      clear hadv
      go_wp2_with fail
      go_quiet (first | (go_at_call 26; refine Calls.quiet_of (more_no _ s s.size op _ hrd (Nat.le_refl _))) | (go_at_call 54; refine quiet_eq (sign_any _ _)))
      go_wp2
      go_quiet (fail)
      go_wp2
      go_ret
      exact ⟨by rw [HA.out]; rfl, by rw [HA.out]; exact hrd, (hext.drewN _).drewN _⟩

end Go.Proofs.YthiaikbdghmnbaaDoor
