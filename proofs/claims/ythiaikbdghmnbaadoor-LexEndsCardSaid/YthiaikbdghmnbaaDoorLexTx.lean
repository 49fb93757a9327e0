/- The plain law of LexBack: what is parsed, told as a text and parsed again. No program stands here. -/
import Derived.Test.YthiaikbdghmnbaaDoorLexRowLaw
namespace Go.Proofs.YthiaikbdghmnbaaDoor

namespace F
/-- The trees' text; is a blank ahead of the first one? -/
def txB : Bool → F → List UInt8
  | _, .nil => []
  | b, .cons wd r _ k t => (if b then [32] else []) ++ ((if r then 40 :: (txB false k ++ [41]) else wd.data.toList) ++ txB true t)
def tx (f : F) : List UInt8 := txB false f
end F

/-- Where the first of these trees stands, or an end. -/
def F.first (to : Nat) : F → Int | .nil => to | .cons _ _ p _ _ => p

/-- Each tree stands at its place. -/
def Pl (s : ByteArray) : F → Nat → Nat → Prop
  | .nil, _, _ => True
  | .cons wd r p k t, from_, to => ∃ q : Nat, p = q ∧ from_ ≤ q ∧ q < to ∧
    ((r = false ∧ k = .nil ∧ wd.size ≠ 0 ∧ wd.size + q ≤ to ∧ s.extract q (q + wd.size) = wd ∧ Pl s t (q + wd.size) to) ∨
     (r = true ∧ wd.size = 0 ∧ (∃ h : q < s.size, s[q] = 40) ∧ ∃ en : Nat, (en : Int) = t.first to ∧ en ≤ to ∧ Pl s k (q + 1) en ∧ Pl s t (q + 1) to))


/-- What the reader may answer: words of signs, rows without a word. -/
def Wf : F → Prop
  | .nil => True
  | .cons wd r _ k t => ((r = true ∧ wd.size = 0 ∧ Wf k) ∨ (r = false ∧ k = .nil ∧ wd.size ≠ 0 ∧ ∀ c ∈ wd.data.toList, isSign c = true)) ∧ Wf t

theorem F.txB_le : ∀ f : F, (f.txB false).length ≤ (f.txB true).length
  | .nil => Nat.le_refl _
  | .cons _ _ _ _ _ => by simp [F.txB]

theorem extract_toList (s : ByteArray) (i j : Nat) : (s.extract i j).data.toList = (s.data.toList.drop i).take (j - i) := by
  rw [Lib.extract_data, List.take_drop]

theorem takeWhile_all (p : UInt8 → Bool) : ∀ l : List UInt8, ∀ c ∈ l.takeWhile p, p c = true
  | [], c, h => by simp at h
  | a :: l, c, h => by
    rw [List.takeWhile_cons] at h
    split at h
    · rename_i ha
      rcases List.mem_cons.1 h with rfl | h'
      · exact ha
      · exact takeWhile_all p l c h'
    · simp at h

theorem word_of (s : ByteArray) (i : Nat) : (s.extract i (adv isSign s i)).data.toList = (s.data.toList.drop i).takeWhile isSign ∧ (s.extract i (adv isSign s i)).size = adv isSign s i - i := by
  have h : (s.extract i (adv isSign s i)).data.toList = (s.data.toList.drop i).takeWhile isSign := by
    rw [extract_toList]
    unfold adv
    rw [show i + (List.takeWhile isSign (List.drop i s.data.toList)).length - i = (List.takeWhile isSign (List.drop i s.data.toList)).length by omega]
    generalize s.data.toList.drop i = l
    induction l with
    | nil => rfl
    | cons a l ih =>
      rw [List.takeWhile_cons]
      split
      · simp [ih]
      · rfl
  refine ⟨h, ?_⟩
  rw [Lib.size_eq, h]
  unfold adv; omega

theorem rowP_good (s : ByteArray) : ∀ n i op f e, i ≤ s.size → s.size - i < n → rowP s i op = .ok (f, e) →
    Wf f ∧ (f.txB true).length + 2 * i ≤ 2 * e ∧ ∀ from_ to, from_ ≤ i → e ≤ to → to ≤ s.size → Pl s f from_ to := by
  intro n
  induction n with
  | zero => intro i op f e _ h; omega
  | succ n ih =>
    intro i op f e hi hn h
    rw [rowP_eq s i op hi] at h
    have h1 := adv_ge isBlank s i
    have h2 := adv_le isBlank s i hi
    split at h
    · rename_i hlt
      split at h
      · cases h; exact ⟨trivial, by simp [F.txB]; omega, fun _ _ _ _ _ => trivial⟩
      · split at h
        · split at h
          · cases h
          · rename_i hne
            have h3 := adv_ge isSign s (adv isBlank s i)
            have h4 := adv_le isSign s (adv isBlank s i) h2
            cases hr : rowP s (adv isSign s (adv isBlank s i)) op with
            | error x => rw [hr] at h; cases h
            | ok x =>
              obtain ⟨g, e'⟩ := x
              rw [hr] at h
              simp [R.pre, F.app] at h
              obtain ⟨rfl, rfl⟩ := h
              obtain ⟨w1, w2⟩ := word_of s (adv isBlank s i)
              obtain ⟨g1, g2, g3⟩ := ih _ _ _ _ h4 (by omega) hr
              have hh := rowP_end h4 hr
              refine ⟨⟨.inr ⟨rfl, rfl, by omega, ?_⟩, g1⟩, ?_, ?_⟩
              · intro c hc
                rw [w1] at hc
                exact takeWhile_all _ _ c hc
              · simp only [F.txB, if_true, Bool.false_eq_true, if_false, List.length_append, List.length_cons, List.length_nil, ← Lib.size_eq]
                omega
              · intro from_ to hf ht hts
                refine ⟨adv isBlank s i, rfl, by omega, by omega, .inl ⟨rfl, rfl, by omega, by omega, ?_, ?_⟩⟩
                · rw [w2]; congr 1; omega
                · exact g3 _ _ (by omega) ht hts
        · split at h
          · cases h
          · split at h
            · cases h
            · rename_i f1 e1 hr
              have hh := rowP_end (by omega) hr
              obtain ⟨g1, g2, g3⟩ := ih _ _ _ _ (by omega) (by omega) hr
              split at h
              · cases h
              · cases hr2 : rowP s (e1 + 1) op with
                | error x => rw [hr2] at h; cases h
                | ok x =>
                  obtain ⟨g, e'⟩ := x
                  rw [hr2] at h
                  simp [R.pre, F.app] at h
                  obtain ⟨rfl, rfl⟩ := h
                  obtain ⟨k1, k2, k3⟩ := ih _ _ _ _ (by omega) (by omega) hr2
                  have hh2 := rowP_end (by omega) hr2
                  have hle := F.txB_le f1
                  refine ⟨⟨.inl ⟨rfl, rfl, g1⟩, k1⟩, ?_, ?_⟩
                  · simp only [F.txB, if_true, List.length_append, List.length_cons, List.length_nil]
                    omega
                  · intro from_ to hf ht hts
                    have hp1 := k3 (e1 + 1) to (Nat.le_refl _) ht hts
                    have hp2 := k3 (adv isBlank s i + 1) to (by omega) ht hts
                    refine ⟨adv isBlank s i, rfl, by omega, by omega, .inr ⟨rfl, rfl, ⟨hlt, ?_⟩, ?_⟩⟩
                    · rename_i hc _ _ _; simpa using hc
                    · cases g with
                      | nil => exact ⟨to, rfl, Nat.le_refl _, g3 _ _ (Nat.le_refl _) (by omega) hts, hp2⟩
                      | cons wd' r' p' k' t' =>
                        obtain ⟨q', rfl, hq1, hq2, _⟩ := hp1
                        exact ⟨q', rfl, by omega, g3 _ _ (Nat.le_refl _) (by omega) (by omega), hp2⟩
    · cases h; exact ⟨trivial, by simp [F.txB]; omega, fun _ _ _ _ _ => trivial⟩

/-- Trees that are the same but for places have one text, one depth. -/
theorem F.shape_tx : ∀ {f g : F} (b : Bool), f.shape g = true → f.txB b = g.txB b
  | .nil, .nil, _, _ => rfl
  | .cons wd r _ k t, .cons wd' r' _ k' t', b, h => by
    simp only [shape, Bool.and_eq_true, beq_iff_eq] at h
    obtain ⟨⟨⟨h1, h2⟩, h3⟩, h4⟩ := h
    simp [txB, h1, h2, shape_tx false h3, shape_tx true h4]
  | .nil, .cons _ _ _ _ _, _, h => by cases h
  | .cons _ _ _ _ _, .nil, _, h => by cases h

theorem F.shape_deep : ∀ {f g : F}, f.shape g = true → f.deep = g.deep
  | .nil, .nil, _ => rfl
  | .cons wd r _ k t, .cons wd' r' _ k' t', h => by
    simp only [shape, Bool.and_eq_true, beq_iff_eq] at h
    obtain ⟨⟨⟨h1, h2⟩, h3⟩, h4⟩ := h
    simp [deep, h2, shape_deep h3, shape_deep h4]
  | .nil, .cons _ _ _ _ _, h => by cases h
  | .cons _ _ _ _ _, .nil, h => by cases h

theorem sign_not (c : UInt8) (h : isSign c = true) : c ≠ 41 ∧ c ≠ 40 ∧ isBlank c = false := by
  refine ⟨?_, ?_, ?_⟩
  · rintro rfl; exact absurd h (by decide)
  · rintro rfl; exact absurd h (by decide)
  · cases hb : isBlank c with
    | false => rfl
    | true =>
      simp [isBlank] at hb
      rcases hb with rfl | rfl <;> exact absurd h (by decide)

theorem adv_drop {p : UInt8 → Bool} {s : ByteArray} {i : Nat} {l rest : List UInt8} (h : s.data.toList.drop i = l ++ rest) (hl : ∀ c ∈ l, p c = true) (hr : ∀ c t, rest = c :: t → p c = false) : adv p s i = i + l.length := by
  unfold adv
  rw [h, List.takeWhile_append_of_pos hl]
  cases rest with
  | nil => simp
  | cons c t => rw [List.takeWhile_cons, hr c t rfl]; simp

theorem drop_add {s : ByteArray} {i : Nat} {l rest : List UInt8} (h : s.data.toList.drop i = l ++ rest) : s.data.toList.drop (i + l.length) = rest := by
  rw [← List.drop_drop, h]; simp

theorem le_of_drop {s : ByteArray} {i : Nat} {c : UInt8} {t : List UInt8} (h : s.data.toList.drop i = c :: t) : i + 1 ≤ s.size := (get_of_drop h).1

/-- The text of such trees is parsed as them. -/
theorem rowP_tx (s : ByteArray) : ∀ (f : F) (b : Bool) (i op : Nat) (rest : List UInt8), Wf f → i ≤ s.size → s.data.toList.drop i = f.txB b ++ rest → (∀ c t, rest = c :: t → c = 41) → f.deep + op ≤ 400 →
    ∃ g, rowP s i op = .ok (g, i + (f.txB b).length) ∧ f.shape g = true
  | .nil, b, i, op, rest, _, hi, hd, hr, _ => by
    simp only [F.txB, List.nil_append] at hd
    refine ⟨.nil, ?_, rfl⟩
    rw [rowP_eq s i op hi]
    cases rest with
    | nil =>
      have hle : s.size ≤ i := by
        have := congrArg List.length hd
        simp at this; omega
      rw [adv_end _ hle]
      simp only [F.txB, List.length_nil, Nat.add_zero]
      rw [dif_neg (by omega)]
    | cons c t =>
      obtain ⟨hlt, hc⟩ := get_of_drop hd
      have h41 := hr c t rfl
      rw [h41] at hc
      have ha : adv isBlank s i = i := adv_stop _ hlt (by rw [hc]; rfl)
      simp only [ha, hlt, dif_pos, hc, if_true, F.txB, List.length_nil, Nat.add_zero]
  | .cons wd r p k t, b, i, op, rest, hw, hi, hd, hr, hdp => by
    simp only [Wf] at hw
    obtain ⟨hcase, hwt⟩ := hw
    simp only [F.deep] at hdp
    simp only [F.txB] at hd
    rw [List.append_assoc, List.append_assoc] at hd
    -- behind the blank
    have hd0 : s.data.toList.drop (i + (if b then [32] else [] : List UInt8).length) = (if r then 40 :: (F.txB false k ++ [41]) else wd.data.toList) ++ (F.txB true t ++ rest) := drop_add hd
    have hhead : ∃ c l, (if r then 40 :: (F.txB false k ++ [41]) else wd.data.toList) = c :: l ∧ isBlank c = false ∧ c ≠ 41 := by
      rcases hcase with ⟨rfl, _, _⟩ | ⟨rfl, _, h0, hs⟩
      · exact ⟨40, _, rfl, rfl, by decide⟩
      · cases hl : wd.data.toList with
        | nil => exact absurd (by rw [Lib.size_eq, hl]; rfl) h0
        | cons c l => exact ⟨c, l, rfl, (sign_not c (hs c (by rw [hl]; simp))).2.2, (sign_not c (hs c (by rw [hl]; simp))).1⟩
    have hadv : adv isBlank s i = i + (if b then [32] else [] : List UInt8).length := by
      refine adv_drop hd (by cases b <;> simp [isBlank]) ?_
      intro c t' he
      obtain ⟨c0, l0, h0, h1, _⟩ := hhead
      rw [h0] at he
      simp at he
      rw [← he.1]; exact h1
    have hlen : ∀ x, (F.txB b (.cons wd r p k t)).length = x ↔ (if b then [32] else [] : List UInt8).length + (if r then 40 :: (F.txB false k ++ [41]) else wd.data.toList).length + (F.txB true t).length = x := by
      intro x; simp only [F.txB, List.length_append]; omega
    rw [(hlen _).2 rfl]
    generalize (if b then [32] else [] : List UInt8).length = d at *
    generalize hj : i + d = j at *
    have hrt : ∀ c t', F.txB true t ++ rest = c :: t' → isSign c = false := by
      intro c t' he
      cases t with
      | nil => simp only [F.txB, List.nil_append] at he; rw [hr c t' he]; rfl
      | cons _ _ _ _ _ => simp [F.txB] at he; rw [← he.1]; rfl
    obtain ⟨c0, l0, hh0, hb0, h41⟩ := hhead
    have hd1 := hd0
    rw [hh0] at hd1
    obtain ⟨hlt, hc⟩ := get_of_drop (t := l0 ++ (F.txB true t ++ rest)) (by simpa using hd1)
    rw [rowP_eq s i op hi]
    simp only [hadv, hlt, dif_pos]
    rw [if_neg (by rw [hc]; exact h41)]
    rcases hcase with ⟨rfl, h0, hwk⟩ | ⟨rfl, rfl, h0, hs⟩
    · simp at hh0
      obtain ⟨rfl, rfl⟩ := hh0
      simp only [if_true] at hd0 ⊢
      simp only [if_true] at hdp
      have e40 : (40 : UInt8) :: (F.txB false k ++ [41]) ++ (F.txB true t ++ rest) = [40] ++ (F.txB false k ++ (41 :: (F.txB true t ++ rest))) := by simp
      rw [e40] at hd0
      have hk0 := drop_add hd0
      simp only [List.length_cons, List.length_nil] at hk0
      obtain ⟨gk, hgk, hsk⟩ := rowP_tx s k false (j + 1) (op + 1) (41 :: (F.txB true t ++ rest)) hwk hlt hk0 (fun c t' he => by simp at he; exact he.1.symm) (by omega)
      have hk1 := drop_add hk0
      have hk2 := drop_add (l := [41]) (rest := F.txB true t ++ rest) (by simpa using hk1)
      have hlt2 := le_of_drop hk1
      obtain ⟨gt, hgt, hst⟩ := rowP_tx s t true (j + 1 + (F.txB false k).length + 1) op rest hwt hlt2 (by simpa using hk2) hr (by omega)
      refine ⟨.cons ByteArray.empty true j gk gt, ?_, ?_⟩
      · rw [if_neg (by rw [hc]; simp), if_neg (by omega), hgk]
        simp only
        rw [if_neg (by omega), hgt]
        simp [R.pre, F.app]
        omega
      · have hwe : wd.data.toList = [] := List.eq_nil_of_length_eq_zero (by rw [← Lib.size_eq]; exact h0)
        simp [F.shape, hwe, hsk, hst]
    · simp only [Bool.false_eq_true, if_false] at hd0 ⊢ hh0
      have hc40 := (sign_not c0 (hs c0 (by rw [hh0]; simp))).2.1
      have ha := adv_drop (p := isSign) hd0 hs hrt
      have hne : wd.data.toList.length ≠ 0 := by rw [← Lib.size_eq]; exact h0
      have hk1 := drop_add hd0
      have hle : j + wd.data.toList.length ≤ s.size := by
        have := adv_le isSign s j (by omega)
        omega
      obtain ⟨gt, hgt, hst⟩ := rowP_tx s t true (j + wd.data.toList.length) op rest hwt hle hk1 hr (by omega)
      refine ⟨.cons (s.extract j (j + wd.data.toList.length)) false j .nil gt, ?_, ?_⟩
      · rw [if_pos (by rw [hc]; exact hc40), ha, if_neg (by omega), hgt]
        simp [R.pre, F.app]
        omega
      · have : (s.extract j (j + wd.data.toList.length)).data.toList = wd.data.toList := by
          rw [extract_toList, hd0, show j + wd.data.toList.length - j = wd.data.toList.length by omega]; simp
        simp only [F.shape, this, hst]; simp

/-- What LexBack asks, of a text that is one. -/
theorem back_good (s : ByteArray) (hs : s.size ≤ 5000) (h : (parseS s).2.2 = 0) :
    (parseS s).2.1 = 0 ∧ ((parseS s).1.tx.length ≤ 2 * s.size) ∧ (parseS s).1.deep ≤ 400 ∧ Pl s (parseS s).1 0 s.size ∧
    ∃ g, parseS ⟨(parseS s).1.tx.toArray⟩ = (g, 0, 0) ∧ (parseS s).1.shape g = true ∧ g.tx = (parseS s).1.tx ∧ g.deep = (parseS s).1.deep := by
  obtain ⟨h1, h2⟩ := parseS_ok (by omega) h
  obtain ⟨g1, g2, g3⟩ := rowP_good s _ _ _ _ _ (by omega) (Nat.lt_succ_self _) h1
  have hd := rowP_deep (by omega) (by omega) h1
  have hle := F.txB_le (parseS s).1
  have hlen : (parseS s).1.tx.length ≤ 2 * s.size := by unfold F.tx; omega
  obtain ⟨g, hg, hsg⟩ := rowP_tx ⟨(parseS s).1.tx.toArray⟩ (parseS s).1 false 0 0 [] g1 (by omega) (by simp [F.tx]) (by intro c t h; cases h) (by omega)
  have hsz : (⟨(parseS s).1.tx.toArray⟩ : ByteArray).size = (parseS s).1.tx.length := by rw [Lib.size_eq]
  refine ⟨h2, hlen, by omega, g3 0 s.size (by omega) (Nat.le_refl _) (Nat.le_refl _), g, ?_, hsg, (F.shape_tx false hsg).symm, (F.shape_deep hsg).symm⟩
  refine parseS_of (by omega) ?_
  rw [hg, hsz]
  simp [F.tx]

theorem back_bad (s : ByteArray) (hs : s.size ≤ 5000) (h : (parseS s).2.2 ≠ 0) : (parseS s).1 = .nil ∧ (parseS s).2.1 ≤ s.size ∧ ((parseS s).2.2 = 20 ∨ (parseS s).2.2 = 3) := by
  refine ⟨?_, (parseS_size s).2, ?_⟩
  all_goals
    unfold parseS at h ⊢
    rw [if_neg (by omega)] at h ⊢
    cases hr : rowP s 0 0 with
    | error x =>
      obtain ⟨p, er⟩ := x
      first
      | rfl
      | exact (rowP_err s _ _ _ _ _ (by omega) (Nat.lt_succ_self _) hr).1
    | ok x =>
      obtain ⟨f, e⟩ := x
      rw [hr] at h
      simp only at h ⊢
      split
      · simp
      · rename_i he; rw [if_neg he] at h; exact absurd rfl h

end Go.Proofs.YthiaikbdghmnbaaDoor
