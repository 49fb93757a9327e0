/- The plain law of LexParses: brackets that are open, in a row, answer as the reader of trees does. No program stands here. -/
import Derived.Test.YthiaikbdghmnbaaDoorLexRowLaw
namespace Go.Proofs.YthiaikbdghmnbaaDoor

/-- The reference's machine: a place, the rows that are open (the last one first). -/
def refK (s : ByteArray) : Nat → Nat → List (F × Nat) → F × Nat × Int
  | 0, _, _ => (.nil, 0, 0)
  | n + 1, i, st =>
    if h : i < s.size then
      if isBlank s[i] = true then refK s n (i + 1) st
      else if s[i] = 40 then if 400 < st.length then (.nil, i, 3) else refK s n (i + 1) ((.nil, i) :: st)
      else if s[i] = 41 then
        match st with
        | (f, b) :: (f1, b1) :: st' => refK s n (i + 1) ((f1.app (.cons ByteArray.empty true b f .nil), b1) :: st')
        | _ => (.nil, i, 20)
      else if isSign s[i] = true then
        match st with
        | (f, b) :: st' => refK s n (adv isSign s i) ((f.app (.cons (s.extract i (adv isSign s i)) false i .nil .nil), b) :: st')
        | [] => (.nil, i, 20)
      else (.nil, i, 20)
    else if 1 < st.length then (.nil, s.size, 20)
    else match st with | (f, _) :: _ => (f, 0, 0) | [] => (.nil, 0, 0)

theorem refK_succ (s : ByteArray) (n i : Nat) (st : List (F × Nat)) : refK s (n + 1) i st =
    if h : i < s.size then
      if isBlank s[i] = true then refK s n (i + 1) st
      else if s[i] = 40 then if 400 < st.length then (.nil, i, 3) else refK s n (i + 1) ((.nil, i) :: st)
      else if s[i] = 41 then
        match st with
        | (f, b) :: (f1, b1) :: st' => refK s n (i + 1) ((f1.app (.cons ByteArray.empty true b f .nil), b1) :: st')
        | _ => (.nil, i, 20)
      else if isSign s[i] = true then
        match st with
        | (f, b) :: st' => refK s n (adv isSign s i) ((f.app (.cons (s.extract i (adv isSign s i)) false i .nil .nil), b) :: st')
        | [] => (.nil, i, 20)
      else (.nil, i, 20)
    else if 1 < st.length then (.nil, s.size, 20)
    else match st with | (f, _) :: _ => (f, 0, 0) | [] => (.nil, 0, 0) := rfl

theorem adv_gt {s : ByteArray} {i : Nat} (h : i < s.size) (hs : isSign s[i] = true) : i < adv isSign s i := by
  rw [adv_step isSign h hs]
  have := adv_ge isSign s (i + 1); omega

theorem refK_fuel (s : ByteArray) : ∀ n m i st, i ≤ s.size → s.size - i < n → s.size - i < m → refK s n i st = refK s m i st := by
  intro n
  induction n with
  | zero => intro m i st _ h; omega
  | succ n ih =>
    intro m i st hi hn hm
    obtain ⟨m, rfl⟩ : ∃ k, m = k + 1 := ⟨m - 1, by omega⟩
    simp only [refK]
    split
    · rename_i hlt
      split
      · exact ih m _ _ (by omega) (by omega) (by omega)
      · split
        · split
          · rfl
          · exact ih m _ _ (by omega) (by omega) (by omega)
        · split
          · split
            · exact ih m _ _ (by omega) (by omega) (by omega)
            · rfl
          · split
            · rename_i hs
              have h1 := adv_gt hlt hs
              have h2 := adv_le isSign s i hi
              split
              · exact ih m _ _ (by omega) (by omega) (by omega)
              · rfl
            · rfl
    · rfl

def refP (s : ByteArray) (i : Nat) (st : List (F × Nat)) : F × Nat × Int := refK s (s.size - i + 1) i st

theorem refP_eq (s : ByteArray) (i : Nat) (st : List (F × Nat)) (hi : i ≤ s.size) : refP s i st =
    if h : i < s.size then
      if isBlank s[i] = true then refP s (i + 1) st
      else if s[i] = 40 then if 400 < st.length then (.nil, i, 3) else refP s (i + 1) ((.nil, i) :: st)
      else if s[i] = 41 then
        match st with
        | (f, b) :: (f1, b1) :: st' => refP s (i + 1) ((f1.app (.cons ByteArray.empty true b f .nil), b1) :: st')
        | _ => (.nil, i, 20)
      else if isSign s[i] = true then
        match st with
        | (f, b) :: st' => refP s (adv isSign s i) ((f.app (.cons (s.extract i (adv isSign s i)) false i .nil .nil), b) :: st')
        | [] => (.nil, i, 20)
      else (.nil, i, 20)
    else if 1 < st.length then (.nil, s.size, 20)
    else match st with | (f, _) :: _ => (f, 0, 0) | [] => (.nil, 0, 0) := by
  have e0 : refP s i st = refK s (s.size - i + 1) i st := rfl
  rw [e0, refK_succ]
  split
  · rename_i hlt
    split
    · exact refK_fuel s _ _ _ _ (by omega) (by omega) (by omega)
    · split
      · split
        · rfl
        · exact refK_fuel s _ _ _ _ (by omega) (by omega) (by omega)
      · split
        · split
          · exact refK_fuel s _ _ _ _ (by omega) (by omega) (by omega)
          · rfl
        · split
          · rename_i hs
            have h1 := adv_gt hlt hs
            have h2 := adv_le isSign s i hi
            split
            · exact refK_fuel s _ _ _ _ (by omega) (by omega) (by omega)
            · rfl
          · rfl
  · rfl

theorem sign_cases (c : UInt8) (h : isSign c = true) : c ≠ 41 ∧ c ≠ 40 ∧ isBlank c = false := by
  refine ⟨?_, ?_, ?_⟩
  · rintro rfl; exact absurd h (by decide)
  · rintro rfl; exact absurd h (by decide)
  · cases hb : isBlank c with
    | false => rfl
    | true =>
      simp [isBlank] at hb
      rcases hb with rfl | rfl <;> exact absurd h (by decide)

/-- The machine reads a row as the reader does. -/
theorem refP_row (s : ByteArray) : ∀ n i acc b st, i ≤ s.size → s.size - i < n → refP s i ((acc, b) :: st) =
    match rowP s i st.length with
    | .error (p, e) => (.nil, p, e)
    | .ok (f, e) => refP s e ((acc.app f, b) :: st) := by
  intro n
  induction n with
  | zero => intro i acc b st _ h; omega
  | succ n ih =>
    intro i acc b st hi hn
    by_cases hlt : i < s.size
    · by_cases hb : isBlank s[i] = true
      · have e1 : rowP s i st.length = rowP s (i + 1) st.length := rowP_blank s i (i + 1) _ hi (by omega) (adv_step isBlank hlt hb)
        rw [refP_eq s i _ hi, dif_pos hlt, if_pos hb, ih (i + 1) acc b st (by omega) (by omega), e1]
      · have ha : adv isBlank s i = i := adv_stop isBlank hlt (by simpa using hb)
        have er := rowP_eq s i st.length hi
        simp only [ha, hlt, dif_pos] at er
        by_cases h41 : s[i] = 41
        · rw [if_pos h41] at er
          rw [er]
          simp only [F.app_nil]
        · rw [if_neg h41] at er
          by_cases h40 : s[i] = 40
          · rw [if_neg (by simp [h40])] at er
            rw [refP_eq s i _ hi, dif_pos hlt, if_neg hb, if_pos h40]
            by_cases hop : st.length < 400
            · rw [if_neg (by omega)] at er
              rw [if_neg (by simp; omega), ih (i + 1) .nil i ((acc, b) :: st) (by omega) (by omega), er]
              simp only [List.length_cons]
              cases hr : rowP s (i + 1) (st.length + 1) with
              | error x => rfl
              | ok x =>
                obtain ⟨f, e⟩ := x
                simp only [F.app]
                have hh := rowP_end (by omega) hr
                by_cases he : e < s.size
                · have hc := hh.2.2 he
                  rw [refP_eq s e _ hh.2.1, dif_pos he, if_neg (by rw [hc]; decide), if_neg (by rw [hc]; decide), if_pos hc]
                  simp only [he, not_true, if_false]
                  rw [ih (e + 1) _ b st (by omega) (by omega)]
                  cases hr2 : rowP s (e + 1) st.length with
                  | error y => rfl
                  | ok y =>
                    obtain ⟨g, e2⟩ := y
                    simp only [R.pre, F.app_assoc]
                · rw [refP_eq s e _ hh.2.1, dif_neg he, if_pos (by simp), if_pos he]
                  have : e = s.size := by omega
                  rw [this]
            · rw [if_pos hop] at er
              rw [if_pos (by simp; omega), er]
          · rw [if_pos h40] at er
            rw [refP_eq s i _ hi, dif_pos hlt, if_neg hb, if_neg h40, if_neg h41]
            by_cases hs : isSign s[i] = true
            · have h1 := adv_gt hlt hs
              have h2 := adv_le isSign s i hi
              rw [if_neg (by omega)] at er
              rw [if_pos hs]
              dsimp only
              rw [ih _ _ b st h2 (by omega), er]
              cases hr2 : rowP s (adv isSign s i) st.length with
              | error y => rfl
              | ok y =>
                obtain ⟨g, e2⟩ := y
                simp only [R.pre, F.app_assoc]
            · rw [if_pos (adv_stop isSign hlt (by simpa using hs))] at er
              rw [if_neg hs, er]
    · have er := rowP_eq s i st.length hi
      rw [adv_end isBlank (by omega), dif_neg hlt] at er
      rw [er]
      simp only [F.app_nil]

def refS (s : ByteArray) : F × Nat × Int := if 262144 < s.size then (.nil, 0, 3) else refP s 0 [(.nil, 0)]

theorem refS_eq (s : ByteArray) : refS s = parseS s := by
  unfold refS parseS
  split
  · rfl
  · rw [refP_row s (s.size + 1) 0 .nil 0 [] (by omega) (by omega)]
    simp only [List.length_nil]
    cases hr : rowP s 0 0 with
    | error x => rfl
    | ok x =>
      obtain ⟨f, e⟩ := x
      have hh := rowP_end (by omega) hr
      simp only [F.app]
      rw [refP_eq s e _ hh.2.1]
      by_cases he : e < s.size
      · have hc := hh.2.2 he
        rw [dif_pos he, if_neg (by rw [hc]; decide), if_neg (by rw [hc]; decide), if_pos hc, if_pos he]
      · rw [dif_neg he, if_neg (by simp), if_neg he]

end Go.Proofs.YthiaikbdghmnbaaDoor
