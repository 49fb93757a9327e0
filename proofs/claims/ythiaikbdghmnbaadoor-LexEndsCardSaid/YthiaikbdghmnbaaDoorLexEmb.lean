/- A text within another: what is read of it there. No program stands here. -/
import Derived.Test.YthiaikbdghmnbaaDoorLexF
import Derived.Test.YthiaikbdghmnbaaDoorLexSpec
import Derived.Lib.IndexBytes
import Derived.Lib.SmallJoins
namespace Go.Proofs.YthiaikbdghmnbaaDoor

theorem bytes_ext {a b : ByteArray} (h : a.data.toList = b.data.toList) : a = b := by
  obtain ⟨⟨l⟩⟩ := a
  obtain ⟨⟨m⟩⟩ := b
  simp at h
  rw [h]

/-- The text a stands in s from d on, with suf behind it. -/
structure Emb (a s : ByteArray) (d : Nat) (suf : List UInt8) : Prop where
  eq : ∃ pre, s.data.toList = pre ++ a.data.toList ++ suf ∧ pre.length = d

namespace Emb
variable {a s : ByteArray} {d : Nat} {suf : List UInt8}
theorem size (h : Emb a s d suf) : s.size = d + a.size + suf.length := by
  obtain ⟨pre, h1, h2⟩ := h.eq
  rw [Lib.size_eq, h1, Lib.size_eq]; simp; omega
theorem drop (h : Emb a s d suf) (i : Nat) (hi : i ≤ a.size) : s.data.toList.drop (d + i) = a.data.toList.drop i ++ suf := by
  obtain ⟨pre, h1, h2⟩ := h.eq
  have hl : a.data.toList.length = a.size := (Lib.size_eq a).symm
  rw [h1, List.append_assoc, ← h2, List.drop_append, List.drop_of_length_le (by omega), List.nil_append, Nat.add_sub_cancel_left, List.drop_append, show i - a.data.toList.length = 0 by omega, List.drop_zero]
theorem get (h : Emb a s d suf) (i : Nat) (hi : i < a.size) (h' : d + i < s.size) : s[d + i] = a[i] := by
  have e := h.drop i (by omega)
  rw [drop_cons h', drop_cons hi] at e
  simp at e
  exact e.1
theorem adv_lt (h : Emb a s d suf) (p : UInt8 → Bool) (i : Nat) (hi : i ≤ a.size) (hlt : adv p a i < a.size) : adv p s (d + i) = d + adv p a i := by
  have hl : a.data.toList.length = a.size := (Lib.size_eq a).symm
  unfold adv at hlt ⊢
  rw [h.drop i hi, List.takeWhile_append, if_neg (by rw [List.length_drop]; omega)]
  omega
theorem adv_end (h : Emb a s d suf) (p : UInt8 → Bool) (i : Nat) (hi : i ≤ a.size) (he : adv p a i = a.size) : adv p s (d + i) = adv p s (d + a.size) := by
  have hl : a.data.toList.length = a.size := (Lib.size_eq a).symm
  have h2 := h.drop a.size (Nat.le_refl _)
  unfold adv at he ⊢
  have h3 : (List.takeWhile p (List.drop i a.data.toList)).length = (List.drop i a.data.toList).length := by rw [List.length_drop]; omega
  rw [h.drop i hi, h2, List.takeWhile_append, if_pos h3, List.drop_of_length_le (l := a.data.toList) (i := a.size) (by omega)]
  rw [List.nil_append, List.length_append]
  omega
theorem extract (h : Emb a s d suf) (i j : Nat) (hi : i ≤ j) (hj : j ≤ a.size) : s.extract (d + i) (d + j) = a.extract i j := by
  have hl : a.data.toList.length = a.size := (Lib.size_eq a).symm
  apply bytes_ext
  rw [Lib.extract_data, Lib.extract_data, h.drop i (by omega), List.take_append, show d + j - (d + i) = j - i by omega, show j - i - (List.drop i a.data.toList).length = 0 by rw [List.length_drop]; omega]
  simp
end Emb

namespace F
/-- All places so much further on. -/
def sh (d : Nat) : F → F
  | .nil => .nil
  | .cons w r p k t => .cons w r (p + d) (k.sh d) (t.sh d)
theorem sh_app (d : Nat) : ∀ f g : F, (f.app g).sh d = (f.sh d).app (g.sh d)
  | .nil, _ => rfl
  | .cons _ _ _ _ t, g => by simp [app, sh, sh_app d t g]
theorem shape_refl : ∀ f : F, f.shape f = true
  | .nil => rfl
  | .cons _ _ _ k t => by simp [shape, shape_refl k, shape_refl t]
theorem sh_shape (d : Nat) : ∀ f : F, (f.sh d).shape f = true
  | .nil => rfl
  | .cons _ _ _ k t => by simp [sh, shape, sh_shape d k, sh_shape d t]
theorem shape_app : ∀ {f f' g g' : F}, f.shape f' = true → g.shape g' = true → (f.app g).shape (f'.app g') = true
  | .nil, .nil, _, _, _, h => h
  | .cons _ _ _ k t, .cons _ _ _ k' t', _, _, h, h2 => by
    simp only [shape, Bool.and_eq_true] at h
    simp only [app, shape, Bool.and_eq_true]
    exact ⟨h.1, shape_app h.2 h2⟩
  | .nil, .cons _ _ _ _ _, _, _, h, _ => by cases h
  | .cons _ _ _ _ _, .nil, _, _, h, _ => by cases h
theorem sh_len (d : Nat) : ∀ f : F, (f.sh d).len = f.len
  | .nil => rfl
  | .cons _ _ _ _ t => by simp [sh, len, sh_len d t]
end F

def R.sh (d : Nat) : R → R
  | .ok (f, e) => .ok (f.sh d, d + e)
  | .error (p, e) => .error (d + p, e)

theorem R.sh_pre (d : Nat) (f : F) (r : R) : R.sh d (R.pre f r) = R.pre (f.sh d) (R.sh d r) := by
  cases r with
  | error x => obtain ⟨p, e⟩ := x; rfl
  | ok x => obtain ⟨g, e⟩ := x; simp [R.sh, R.pre, F.sh_app]

theorem rowP_blank (s : ByteArray) (x y op : Nat) (hx : x ≤ s.size) (hy : y ≤ s.size) (h : adv isBlank s x = adv isBlank s y) : rowP s x op = rowP s y op := by
  rw [rowP_eq s x op hx, rowP_eq s y op hy, h]

/-- At the end of a text: whatever it is, so much further on. -/
theorem rowP_shift {a s : ByteArray} {d : Nat} (hE : Emb a s d []) : ∀ n i op, i ≤ a.size → a.size - i < n → rowP s (d + i) op = R.sh d (rowP a i op) := by
  have hsz := hE.size
  simp at hsz
  intro n
  induction n with
  | zero => intro i op _ h; omega
  | succ n ih =>
    intro i op hi hn
    rw [rowP_eq s (d + i) op (by omega), rowP_eq a i op hi]
    have h1 := adv_ge isBlank a i
    have h2 := adv_le isBlank a i hi
    by_cases hlt : adv isBlank a i < a.size
    · have e1 := hE.adv_lt isBlank i hi hlt
      have hlt' : adv isBlank s (d + i) < s.size := by omega
      rw [dif_pos hlt', dif_pos hlt]
      have e2 : s[d + adv isBlank a i]'(by omega) = a[adv isBlank a i] := hE.get (adv isBlank a i) hlt (by omega)
      simp only [e1, e2]
      have hp : ((d + (adv isBlank a i) : Nat) : Int) = ((adv isBlank a i) : Int) + (d : Int) := by omega
      by_cases h41 : a[(adv isBlank a i)] = 41
      · simp only [if_pos h41]; rfl
      · simp only [if_neg h41]
        by_cases h40 : a[(adv isBlank a i)] ≠ 40
        · simp only [if_pos h40]
          have h3 := adv_ge isSign a (adv isBlank a i)
          have h4 := adv_le isSign a (adv isBlank a i) h2
          have e3 : adv isSign s (d + (adv isBlank a i)) = d + adv isSign a (adv isBlank a i) := by
            by_cases hj : adv isSign a (adv isBlank a i) < a.size
            · exact hE.adv_lt isSign (adv isBlank a i) h2 hj
            · have hj' : adv isSign a (adv isBlank a i) = a.size := by omega
              rw [hE.adv_end isSign (adv isBlank a i) h2 hj', adv_end isSign (by omega), hj']
          simp only [e3]
          by_cases hz : adv isSign a (adv isBlank a i) = (adv isBlank a i)
          · rw [if_pos (by omega), if_pos hz]; rfl
          · rw [if_neg (by omega), if_neg hz, R.sh_pre, hE.extract (adv isBlank a i) _ h3 h4, ih _ op h4 (by omega)]
            simp [F.sh, hp]
        · simp only [if_neg h40]
          by_cases hlo : ¬ op < 400
          · simp only [if_pos hlo]; rfl
          · simp only [if_neg hlo]
            rw [show d + (adv isBlank a i) + 1 = d + ((adv isBlank a i) + 1) by omega, ih ((adv isBlank a i) + 1) (op + 1) (by omega) (by omega)]
            cases hr : rowP a ((adv isBlank a i) + 1) (op + 1) with
            | error x => rfl
            | ok x =>
              obtain ⟨f, e⟩ := x
              have hh := rowP_end (by omega) hr
              simp only [R.sh]
              by_cases he : e < a.size
              · rw [if_neg (by omega), if_neg (by omega), show d + e + 1 = d + (e + 1) by omega, ih (e + 1) op (by omega) (by omega)]
                have h5 := R.sh_pre d (F.cons ByteArray.empty true (↑(adv isBlank a i)) f F.nil) (rowP a (e + 1) op)
                simp only [F.sh, ← hp] at h5
                exact h5.symm
              · rw [if_pos (by omega), if_pos (by omega)]
    · have hz : adv isBlank a i = a.size := by omega
      have e1 : adv isBlank s (d + i) = d + a.size := by rw [hE.adv_end isBlank i hi hz, adv_end isBlank (by omega)]
      rw [dif_neg (by omega), dif_neg hlt, e1, hz]; rfl

/-- Rows that end well, within another text, deeper by dd: as they were, so much further on, if that is not too deep. -/
theorem rowP_emb {a s : ByteArray} {d : Nat} {suf : List UInt8} (hE : Emb a s d suf) (hc : ∀ c t, suf = c :: t → isSign c = false) (dd : Nat) : ∀ n i op f e, i ≤ a.size → a.size - i < n → op + dd ≤ 400 → rowP a i op = .ok (f, e) →
    (f.deep + (op + dd) ≤ 400 → rowP s (d + i) (op + dd) = if e < a.size then .ok (f.sh d, d + e) else R.pre (f.sh d) (rowP s (d + a.size) (op + dd))) ∧
    (400 < f.deep + (op + dd) → ∃ p, rowP s (d + i) (op + dd) = .error (p, 3)) := by
  have hsz := hE.size
  have hend : adv isSign s (d + a.size) = d + a.size := by
    cases suf with
    | nil => exact adv_end isSign (by simp at hsz; omega)
    | cons c t =>
      have hlt : d + a.size < s.size := by simp at hsz; omega
      have := hE.drop a.size (Nat.le_refl _)
      rw [drop_cons hlt, drop_end (Nat.le_refl _)] at this
      simp at this
      exact adv_stop isSign hlt (by rw [this.1]; exact hc c t rfl)
  intro n
  induction n with
  | zero => intro i op f e _ h; omega
  | succ n ih =>
    intro i op f e hi hn hop h
    rw [rowP_eq a i op hi] at h
    have h1 := adv_ge isBlank a i
    have h2 := adv_le isBlank a i hi
    by_cases hlt : adv isBlank a i < a.size
    · have e1 := hE.adv_lt isBlank i hi hlt
      have hlt' : adv isBlank s (d + i) < s.size := by omega
      have e2 : s[d + adv isBlank a i]'(by omega) = a[adv isBlank a i] := hE.get (adv isBlank a i) hlt (by omega)
      rw [rowP_eq s (d + i) (op + dd) (by omega), dif_pos hlt']
      simp only [e1, e2]
      rw [dif_pos hlt] at h
      by_cases h41 : a[(adv isBlank a i)] = 41
      · rw [if_pos h41] at h
        simp at h
        obtain ⟨rfl, rfl⟩ := h
        refine ⟨fun _ => by rw [if_pos h41, if_pos hlt]; rfl, fun hh => ?_⟩
        simp [F.deep] at hh; omega
      · rw [if_neg h41] at h
        simp only [if_neg h41]
        by_cases h40 : a[(adv isBlank a i)] ≠ 40
        · rw [if_pos h40] at h
          simp only [if_pos h40]
          have h3 := adv_ge isSign a (adv isBlank a i)
          have h4 := adv_le isSign a (adv isBlank a i) h2
          have e3 : adv isSign s (d + (adv isBlank a i)) = d + adv isSign a (adv isBlank a i) := by
            by_cases hj : adv isSign a (adv isBlank a i) < a.size
            · exact hE.adv_lt isSign (adv isBlank a i) h2 hj
            · have hj' : adv isSign a (adv isBlank a i) = a.size := by omega
              rw [hE.adv_end isSign (adv isBlank a i) h2 hj', hend, hj']
          by_cases hz : adv isSign a (adv isBlank a i) = (adv isBlank a i)
          · rw [if_pos hz] at h; cases h
          · rw [if_neg hz] at h
            cases hr : rowP a (adv isSign a (adv isBlank a i)) op with
            | error x => rw [hr] at h; cases h
            | ok x =>
              obtain ⟨g, e'⟩ := x
              rw [hr] at h
              simp [R.pre, F.app] at h
              obtain ⟨rfl, rfl⟩ := h
              have hI := ih _ op g e' h4 (by omega) hop hr
              have hd : (F.cons (a.extract (adv isBlank a i) (adv isSign a (adv isBlank a i))) false (↑(adv isBlank a i)) F.nil g).deep = g.deep := by simp [F.deep]
              rw [hd]
              simp only [e3]
              rw [if_neg (show ¬ d + adv isSign a (adv isBlank a i) = d + (adv isBlank a i) by omega), hE.extract (adv isBlank a i) _ h3 h4]
              refine ⟨fun hh => ?_, fun hh => ?_⟩
              · rw [hI.1 hh]
                have hp : ((d + (adv isBlank a i) : Nat) : Int) = ((adv isBlank a i) : Int) + (d : Int) := by omega
                split
                · simp [R.pre, F.sh, F.app, hp]
                · rw [R.pre_pre]; simp [F.sh, F.app, hp]
              · obtain ⟨p, hp⟩ := hI.2 hh
                exact ⟨p, by rw [hp]; rfl⟩
        · rw [if_neg h40] at h
          simp only [if_neg h40]
          by_cases hlo : ¬ op < 400
          · rw [if_pos hlo] at h; cases h
          · rw [if_neg hlo] at h
            cases hr : rowP a ((adv isBlank a i) + 1) (op + 1) with
            | error x => rw [hr] at h; cases h
            | ok x =>
              obtain ⟨f1, e1'⟩ := x
              rw [hr] at h
              simp only at h
              have hh1 := rowP_end (by omega) hr
              by_cases he : ¬ e1' < a.size
              · rw [if_pos he] at h; cases h
              · rw [if_neg he] at h
                cases hr2 : rowP a (e1' + 1) op with
                | error x => rw [hr2] at h; cases h
                | ok x =>
                  obtain ⟨g, e'⟩ := x
                  rw [hr2] at h
                  simp [R.pre, F.app] at h
                  obtain ⟨rfl, rfl⟩ := h
                  have hd : (F.cons ByteArray.empty true (↑(adv isBlank a i)) f1 g).deep = max (f1.deep + 1) g.deep := by simp [F.deep]
                  rw [hd]
                  have hI2 := ih (e1' + 1) op g e' (by omega) (by omega) hop hr2
                  by_cases hlo2 : op + dd < 400
                  · have hI1 := ih ((adv isBlank a i) + 1) (op + 1) f1 e1' (by omega) (by omega) (by omega) hr
                    rw [if_neg (by omega), show d + (adv isBlank a i) + 1 = d + ((adv isBlank a i) + 1) by omega, show op + dd + 1 = op + 1 + dd by omega]
                    by_cases hd1 : f1.deep + (op + 1 + dd) ≤ 400
                    · rw [hI1.1 hd1, if_pos (by omega)]
                      simp only
                      rw [if_neg (by omega), show d + e1' + 1 = d + (e1' + 1) by omega]
                      refine ⟨fun hh => ?_, fun hh => ?_⟩
                      · rw [hI2.1 (by omega)]
                        have hp : ((d + (adv isBlank a i) : Nat) : Int) = ((adv isBlank a i) : Int) + (d : Int) := by omega
                        split
                        · simp [R.pre, F.sh, F.app, hp]
                        · rw [R.pre_pre]; simp [F.sh, F.app, hp]
                      · obtain ⟨p, hp⟩ := hI2.2 (by omega)
                        exact ⟨p, by rw [hp]; rfl⟩
                    · obtain ⟨p, hp⟩ := hI1.2 (by omega)
                      rw [hp]
                      exact ⟨fun hh => by omega, fun _ => ⟨p, rfl⟩⟩
                  · rw [if_pos hlo2]
                    exact ⟨fun hh => by omega, fun _ => ⟨_, rfl⟩⟩
    · rw [dif_neg hlt] at h
      have hz : adv isBlank a i = a.size := by omega
      simp at h
      obtain ⟨rfl, rfl⟩ := h
      refine ⟨fun _ => ?_, fun hh => ?_⟩
      · rw [if_neg (by omega), F.sh, R.pre_nil]
        exact rowP_blank s _ _ _ (by omega) (by omega) (hE.adv_end isBlank i hi hz)
      · simp [F.deep] at hh; omega

end Go.Proofs.YthiaikbdghmnbaaDoor
