/- What the reader of trees answers, as plain functions on bytes. No program stands here. -/
import Derived.Test.YthiaikbdghmnbaaDoorBase
namespace Go.Proofs.YthiaikbdghmnbaaDoor

def isBlank (c : UInt8) : Bool := c == 32 || c == 10
def isSign (c : UInt8) : Bool := (97 ≤ c && c ≤ 122) || (48 ≤ c && c ≤ 57) || c == 95 || c == 45 || c == 46 || c == 43 || c == 42 || c == 47 || c == 61 || c == 60 || c == 62

/-- How far bytes of a kind reach. -/
def adv (p : UInt8 → Bool) (s : ByteArray) (i : Nat) : Nat := i + ((s.data.toList.drop i).takeWhile p).length

theorem drop_cons {s : ByteArray} {i : Nat} (h : i < s.size) : s.data.toList.drop i = s[i] :: s.data.toList.drop (i + 1) := by
  rw [List.drop_eq_getElem_cons (by simpa using h)]; rfl
theorem drop_end {s : ByteArray} {i : Nat} (h : s.size ≤ i) : s.data.toList.drop i = [] := List.drop_of_length_le (by simpa using h)

theorem adv_end (p : UInt8 → Bool) {s : ByteArray} {i : Nat} (h : s.size ≤ i) : adv p s i = i := by simp [adv, drop_end h]
theorem adv_stop (p : UInt8 → Bool) {s : ByteArray} {i : Nat} (h : i < s.size) (hp : p s[i] = false) : adv p s i = i := by
  simp [adv, drop_cons h, hp]
theorem adv_step (p : UInt8 → Bool) {s : ByteArray} {i : Nat} (h : i < s.size) (hp : p s[i] = true) : adv p s i = adv p s (i + 1) := by
  simp [adv, drop_cons h, hp]; omega
theorem adv_ge (p : UInt8 → Bool) (s : ByteArray) (i : Nat) : i ≤ adv p s i := by unfold adv; omega
theorem adv_le (p : UInt8 → Bool) (s : ByteArray) (i : Nat) (h : i ≤ s.size) : adv p s i ≤ s.size := by
  unfold adv
  have := (List.takeWhile_sublist (l := s.data.toList.drop i) p).length_le
  simp at this; omega
theorem adv_at (p : UInt8 → Bool) (s : ByteArray) : ∀ (n i : Nat), s.size - i = n → i ≤ s.size → ∀ h : adv p s i < s.size, p s[adv p s i] = false := by
  intro n
  induction n with
  | zero => intro i hn hi h; rw [adv_end p (by omega)] at h; omega
  | succ n ih =>
    intro i hn hi h
    have hlt : i < s.size := by omega
    by_cases hp : p s[i] = true
    · have e := adv_step p hlt hp
      have h' : adv p s (i + 1) < s.size := by rw [← e]; exact h
      have := ih (i + 1) (by omega) (by omega) h'
      simp only [e]; exact this
    · have e := adv_stop p hlt (by simpa using hp)
      simp only [e]; simpa using hp

abbrev R := Except (Nat × Int) (F × Nat)

def R.pre (f : F) : R → R
  | .ok (g, e) => .ok (f.app g, e)
  | .error x => .error x

/-- Trees from a place on, so deep, up to a closing bracket or the end. -/
def rowK (s : ByteArray) : Nat → Nat → Nat → R
  | 0, _, _ => .error (0, 0)
  | k + 1, at_, op =>
    let i := adv isBlank s at_
    if h : i < s.size then
      if s[i] = 41 then .ok (.nil, i)
      else if s[i] ≠ 40 then
        if adv isSign s i = i then .error (i, 20)
        else R.pre (.cons (s.extract i (adv isSign s i)) false i .nil .nil) (rowK s k (adv isSign s i) op)
      else if ¬ op < 400 then .error (i, 3)
      else match rowK s k (i + 1) (op + 1) with
        | .error x => .error x
        | .ok (f, e) => if ¬ e < s.size then .error (e, 20) else R.pre (.cons ByteArray.empty true i f .nil) (rowK s k (e + 1) op)
    else .ok (.nil, i)

theorem R.pre_pre (f g : F) (r : R) : R.pre f (R.pre g r) = R.pre (f.app g) r := by
  cases r with
  | error x => rfl
  | ok x => obtain ⟨h, e⟩ := x; simp [R.pre, F.app_assoc]
theorem R.pre_nil (r : R) : R.pre .nil r = r := by
  cases r with
  | error x => rfl
  | ok x => obtain ⟨h, e⟩ := x; simp [R.pre, F.app]

theorem rowK_succ (s : ByteArray) (k at_ op : Nat) : rowK s (k + 1) at_ op =
    if h : adv isBlank s at_ < s.size then
      if s[adv isBlank s at_] = 41 then .ok (.nil, adv isBlank s at_)
      else if s[adv isBlank s at_] ≠ 40 then
        if adv isSign s (adv isBlank s at_) = adv isBlank s at_ then .error (adv isBlank s at_, 20)
        else R.pre (.cons (s.extract (adv isBlank s at_) (adv isSign s (adv isBlank s at_))) false (adv isBlank s at_) .nil .nil) (rowK s k (adv isSign s (adv isBlank s at_)) op)
      else if ¬ op < 400 then .error (adv isBlank s at_, 3)
      else match rowK s k (adv isBlank s at_ + 1) (op + 1) with
        | .error x => .error x
        | .ok (f, e) => if ¬ e < s.size then .error (e, 20) else R.pre (.cons ByteArray.empty true (adv isBlank s at_) f .nil) (rowK s k (e + 1) op)
    else .ok (.nil, adv isBlank s at_) := rfl

/-- Where a row ends, that is behind where it began, in the text; a closing bracket stands there, or nothing. -/
theorem rowK_end (s : ByteArray) : ∀ k at_ op f e, at_ ≤ s.size → s.size - at_ < k → rowK s k at_ op = .ok (f, e) → at_ ≤ e ∧ e ≤ s.size ∧ ∀ h : e < s.size, s[e] = 41 := by
  intro k
  induction k with
  | zero => intro at_ op f e _ h; omega
  | succ k ih =>
    intro at_ op f e hat hk h
    rw [rowK_succ] at h
    have h1 := adv_ge isBlank s at_
    have h2 := adv_le isBlank s at_ hat
    generalize adv isBlank s at_ = i at *
    split at h
    · rename_i hi
      split at h
      · rename_i h41; simp at h; obtain ⟨rfl, rfl⟩ := h; exact ⟨h1, h2, fun _ => h41⟩
      · split at h
        · split at h
          · cases h
          · rename_i hne
            have h3 := adv_ge isSign s i
            have h4 := adv_le isSign s i h2
            cases hr : rowK s k (adv isSign s i) op with
            | error x => rw [hr] at h; cases h
            | ok x =>
              obtain ⟨g, e'⟩ := x
              rw [hr] at h; simp [R.pre] at h
              obtain ⟨_, rfl⟩ := h
              have := ih _ _ _ _ h4 (by omega) hr
              exact ⟨by omega, this.2⟩
        · split at h
          · cases h
          · split at h
            · cases h
            · rename_i f' e' hr
              split at h
              · cases h
              · rename_i hlt
                have hlt' : e' < s.size := by omega
                have hh := ih _ _ _ _ (by omega) (by omega) hr
                cases hr2 : rowK s k (e' + 1) op with
                | error x => rw [hr2] at h; cases h
                | ok x =>
                  obtain ⟨g, e''⟩ := x
                  rw [hr2] at h; simp [R.pre] at h
                  obtain ⟨_, rfl⟩ := h
                  have := ih _ _ _ _ (by omega) (by omega) hr2
                  exact ⟨by omega, this.2⟩
    · simp at h; obtain ⟨rfl, rfl⟩ := h; exact ⟨h1, h2, fun h => absurd h ‹_›⟩

theorem rowK_fuel (s : ByteArray) : ∀ k k' at_ op, at_ ≤ s.size → s.size - at_ < k → s.size - at_ < k' → rowK s k at_ op = rowK s k' at_ op := by
  intro k
  induction k with
  | zero => intro k' at_ op _ h; omega
  | succ k ih =>
    intro k' at_ op hat hk hk'
    obtain ⟨k', rfl⟩ : ∃ m, k' = m + 1 := ⟨k' - 1, by omega⟩
    rw [rowK_succ, rowK_succ]
    have h1 := adv_ge isBlank s at_
    have h2 := adv_le isBlank s at_ hat
    generalize adv isBlank s at_ = i at *
    split
    · split
      · rfl
      · split
        · split
          · rfl
          · have h3 := adv_ge isSign s i
            have h4 := adv_le isSign s i h2
            rw [ih k' _ op h4 (by omega) (by omega)]
        · split
          · rfl
          · rw [ih k' (i + 1) (op + 1) (by omega) (by omega) (by omega)]
            cases hr : rowK s k' (i + 1) (op + 1) with
            | error x => rfl
            | ok x =>
              obtain ⟨f, e⟩ := x
              have hh := rowK_end s _ _ _ _ _ (by omega) (by omega) hr
              simp only
              split
              · rfl
              · rw [ih k' (e + 1) op (by omega) (by omega) (by omega)]
    · rfl

/-- The same, with as much fuel as it takes. -/
def rowP (s : ByteArray) (at_ op : Nat) : R := rowK s (s.size - at_ + 1) at_ op

theorem rowP_end {s : ByteArray} {at_ op : Nat} {f : F} {e : Nat} (hat : at_ ≤ s.size) (h : rowP s at_ op = .ok (f, e)) : at_ ≤ e ∧ e ≤ s.size ∧ ∀ h : e < s.size, s[e] = 41 :=
  rowK_end s _ _ _ _ _ hat (by omega) h

theorem rowP_eq (s : ByteArray) (at_ op : Nat) (hat : at_ ≤ s.size) : rowP s at_ op =
    if h : adv isBlank s at_ < s.size then
      if s[adv isBlank s at_] = 41 then .ok (.nil, adv isBlank s at_)
      else if s[adv isBlank s at_] ≠ 40 then
        if adv isSign s (adv isBlank s at_) = adv isBlank s at_ then .error (adv isBlank s at_, 20)
        else R.pre (.cons (s.extract (adv isBlank s at_) (adv isSign s (adv isBlank s at_))) false (adv isBlank s at_) .nil .nil) (rowP s (adv isSign s (adv isBlank s at_)) op)
      else if ¬ op < 400 then .error (adv isBlank s at_, 3)
      else match rowP s (adv isBlank s at_ + 1) (op + 1) with
        | .error x => .error x
        | .ok (f, e) => if ¬ e < s.size then .error (e, 20) else R.pre (.cons ByteArray.empty true (adv isBlank s at_) f .nil) (rowP s (e + 1) op)
    else .ok (.nil, adv isBlank s at_) := by
  have e0 : rowP s at_ op = rowK s (s.size - at_ + 2) at_ op := rowK_fuel s _ _ _ _ hat (by omega) (by omega)
  rw [e0, rowK_succ]
  have h1 := adv_ge isBlank s at_
  have h2 := adv_le isBlank s at_ hat
  generalize adv isBlank s at_ = i at *
  split
  · split
    · rfl
    · split
      · split
        · rfl
        · have h3 := adv_ge isSign s i
          have h4 := adv_le isSign s i h2
          rw [rowK_fuel s _ (s.size - adv isSign s i + 1) (adv isSign s i) op h4 (by omega) (by omega)]; rfl
      · split
        · rfl
        · rw [rowK_fuel s _ (s.size - (i + 1) + 1) (i + 1) (op + 1) (by omega) (by omega) (by omega)]
          change (match rowP s (i + 1) (op + 1) with | .error x => _ | .ok (f, e) => _) = _
          cases hr : rowP s (i + 1) (op + 1) with
          | error x => rfl
          | ok x =>
            obtain ⟨f, e⟩ := x
            have hh := rowP_end (by omega) hr
            simp only
            split
            · rfl
            · rw [rowK_fuel s _ (s.size - (e + 1) + 1) (e + 1) op (by omega) (by omega) (by omega)]; rfl
  · rfl

/-- P13.1: the trees of a text; else the first byte that may not be, and the error. -/
def parseS (s : ByteArray) : F × Nat × Int :=
  if 262144 < s.size then (.nil, 0, 3)
  else match rowP s 0 0 with
    | .error (p, e) => (.nil, p, e)
    | .ok (f, e) => if e < s.size then (.nil, e, 20) else (f, 0, 0)

end Go.Proofs.YthiaikbdghmnbaaDoor
