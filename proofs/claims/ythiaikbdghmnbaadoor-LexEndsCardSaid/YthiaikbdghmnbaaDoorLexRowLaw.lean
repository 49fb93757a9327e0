/- The plain law of LexRow: two texts, one behind the other; a text in brackets. No program stands here. -/
import Derived.Test.YthiaikbdghmnbaaDoorLexEmb
namespace Go.Proofs.YthiaikbdghmnbaaDoor

theorem emb_self (a : ByteArray) : Emb a a 0 [] := ⟨[], by simp, rfl⟩

theorem rowP_deep {s : ByteArray} {i op : Nat} {f : F} {e : Nat} (hi : i ≤ s.size) (hop : op ≤ 400) (h : rowP s i op = .ok (f, e)) : f.deep + op ≤ 400 := by
  have := (rowP_emb (emb_self s) (by intro c t h; cases h) 0 (s.size + 1) i op f e hi (by omega) (by omega) h).2
  by_cases hh : f.deep + op ≤ 400
  · exact hh
  · obtain ⟨p, hp⟩ := this (by omega)
    rw [Nat.zero_add, Nat.add_zero, h] at hp
    cases hp

theorem rowP_err (s : ByteArray) : ∀ n i op p er, i ≤ s.size → s.size - i < n → rowP s i op = .error (p, er) → (er = 20 ∨ er = 3) ∧ p ≤ s.size := by
  intro n
  induction n with
  | zero => intro i op p er _ h; omega
  | succ n ih =>
    intro i op p er hi hn h
    rw [rowP_eq s i op hi] at h
    have h1 := adv_ge isBlank s i
    have h2 := adv_le isBlank s i hi
    split at h
    · split at h
      · cases h
      · split at h
        · split at h
          · simp at h; exact ⟨.inl h.2.symm, by omega⟩
          · have h3 := adv_ge isSign s (adv isBlank s i)
            have h4 := adv_le isSign s (adv isBlank s i) h2
            cases hr : rowP s (adv isSign s (adv isBlank s i)) op with
            | error x =>
              obtain ⟨p', er'⟩ := x
              rw [hr] at h
              simp [R.pre] at h
              obtain ⟨rfl, rfl⟩ := h
              exact ih _ _ _ _ h4 (by omega) hr
            | ok x => obtain ⟨g, e⟩ := x; rw [hr] at h; cases h
        · split at h
          · simp at h; exact ⟨.inr h.2.symm, by omega⟩
          · split at h
            · rename_i x hr
              cases h
              exact ih _ _ _ _ (by omega) (by omega) hr
            · rename_i f e hr
              have hh := rowP_end (by omega) hr
              split at h
              · simp at h; exact ⟨.inl h.2.symm, by omega⟩
              · cases hr2 : rowP s (e + 1) op with
                | error x =>
                  obtain ⟨p', er'⟩ := x
                  rw [hr2] at h
                  simp [R.pre] at h
                  obtain ⟨rfl, rfl⟩ := h
                  exact ih _ _ _ _ (by omega) (by omega) hr2
                | ok x => obtain ⟨g, e⟩ := x; rw [hr2] at h; cases h
    · cases h

/-- A text that is one: its trees reach its end. -/
theorem parseS_ok {s : ByteArray} (hs : s.size ≤ 262144) (h : (parseS s).2.2 = 0) : rowP s 0 0 = .ok ((parseS s).1, s.size) ∧ (parseS s).2.1 = 0 := by
  unfold parseS at h ⊢
  rw [if_neg (by omega)] at h ⊢
  cases hr : rowP s 0 0 with
  | error x =>
    obtain ⟨p, er⟩ := x
    rw [hr] at h
    simp only at h
    have := (rowP_err s _ _ _ _ _ (by omega) (Nat.lt_succ_self _) hr).1
    omega
  | ok x =>
    obtain ⟨f, e⟩ := x
    rw [hr] at h
    simp only at h ⊢
    have hh := rowP_end (by omega) hr
    by_cases he : e < s.size
    · rw [if_pos he] at h; simp at h
    · rw [if_neg he]
      have : e = s.size := by omega
      subst this
      exact ⟨rfl, rfl⟩

theorem parseS_of {s : ByteArray} (hs : s.size ≤ 262144) {f : F} (h : rowP s 0 0 = .ok (f, s.size)) : parseS s = (f, 0, 0) := by
  unfold parseS
  rw [if_neg (by omega)]
  simp only [h]
  rw [if_neg (by omega)]

def sp (a b : ByteArray) : ByteArray := a ++ ⟨#[32]⟩ ++ b
def br (a : ByteArray) : ByteArray := ⟨#[40]⟩ ++ a ++ ⟨#[41]⟩

theorem sp_data (a b : ByteArray) : (sp a b).data.toList = a.data.toList ++ 32 :: b.data.toList := by
  unfold sp; rw [Joins.data_append, Joins.data_append]; simp
theorem br_data (a : ByteArray) : (br a).data.toList = 40 :: (a.data.toList ++ [41]) := by
  unfold br; rw [Joins.data_append, Joins.data_append]; simp
theorem sp_size (a b : ByteArray) : (sp a b).size = a.size + 1 + b.size := by
  rw [Lib.size_eq, sp_data, Lib.size_eq, Lib.size_eq]; simp; omega
theorem br_size (a : ByteArray) : (br a).size = a.size + 2 := by
  rw [Lib.size_eq, br_data, Lib.size_eq]; simp

theorem get_of_drop {s : ByteArray} {i : Nat} {c : UInt8} {t : List UInt8} (h : s.data.toList.drop i = c :: t) : ∃ hlt : i < s.size, s[i] = c := by
  have hlt : i < s.size := by
    have := congrArg List.length h
    simp at this; omega
  refine ⟨hlt, ?_⟩
  rw [drop_cons hlt] at h
  simp at h
  exact h.1

theorem sp_row (a b : ByteArray) (ha : (parseS a).2.2 = 0) (hs : a.size ≤ 262144) : rowP (sp a b) 0 0 = R.pre ((parseS a).1.sh 0) (R.sh (a.size + 1) (rowP b 0 0)) := by
  have hok := (parseS_ok hs ha).1
  have E1 : Emb a (sp a b) 0 (32 :: b.data.toList) := ⟨[], by rw [sp_data]; simp, rfl⟩
  have E2 : Emb b (sp a b) (a.size + 1) [] := ⟨a.data.toList ++ [32], by rw [sp_data]; simp, by simp⟩
  have hd := rowP_deep (by omega) (by omega) hok
  have h1 := (rowP_emb E1 (by intro c t h; cases h; decide) 0 (a.size + 1) 0 0 _ _ (by omega) (by omega) (by omega) hok).1 hd
  rw [if_neg (by omega)] at h1
  rw [h1]
  congr 1
  have hsz := sp_size a b
  obtain ⟨hlt, hc⟩ := get_of_drop (s := sp a b) (i := a.size) (c := 32) (t := b.data.toList) (by rw [sp_data, List.drop_append]; simp)
  have e : rowP (sp a b) a.size 0 = rowP (sp a b) (a.size + 1) 0 := rowP_blank _ _ _ _ (by omega) (by omega) (adv_step isBlank hlt (by rw [hc]; decide))
  have h2 := rowP_shift E2 (b.size + 1) 0 0 (by omega) (by omega)
  simp only [Nat.add_zero, Nat.zero_add] at h2 ⊢
  rw [e, h2]

theorem sp_bad (a b : ByteArray) (hab : a.size + b.size ≤ 5000) (ha : (parseS a).2.2 = 0) (hb : (parseS b).2.2 ≠ 0) :
    parseS (sp a b) = (.nil, (parseS b).2.1 + a.size + 1, (parseS b).2.2) := by
  have hrow := sp_row a b ha (by omega)
  have hsz := sp_size a b
  unfold parseS at hb ⊢
  rw [if_neg (by omega)] at hb ⊢
  rw [hrow]
  rw [if_neg (show ¬ 262144 < b.size by omega)]
  cases hr : rowP b 0 0 with
  | error x =>
    obtain ⟨p, er⟩ := x
    simp [R.sh, R.pre]; omega
  | ok x =>
    obtain ⟨g, e⟩ := x
    rw [hr] at hb
    simp only at hb
    by_cases he : e < b.size
    · simp only [R.sh, R.pre]
      rw [if_pos (by omega), if_pos he]; simp; omega
    · rw [if_neg he] at hb; simp at hb

theorem sp_good (a b : ByteArray) (hab : a.size + b.size ≤ 5000) (ha : (parseS a).2.2 = 0) (hb : (parseS b).2.2 = 0) :
    parseS (sp a b) = (((parseS a).1.sh 0).app ((parseS b).1.sh (a.size + 1)), 0, 0) := by
  have hrow := sp_row a b ha (by omega)
  have hsz := sp_size a b
  refine parseS_of (by omega) ?_
  rw [hrow, (parseS_ok (by omega) hb).1]
  simp [R.sh, R.pre]; omega

theorem br_deep (a : ByteArray) (hs : a.size ≤ 5000) (ha : (parseS a).2.2 = 0) (hd : (parseS a).1.deep = 400) : (parseS (br a)).2.2 = 3 ∧ (parseS (br a)).1 = .nil := by
  have hok := (parseS_ok (by omega) ha).1
  have E1 : Emb a (br a) 1 [41] := ⟨[40], by rw [br_data]; simp, rfl⟩
  obtain ⟨p, hp⟩ := (rowP_emb E1 (by intro c t h; cases h; decide) 1 (a.size + 1) 0 0 _ _ (by omega) (by omega) (by omega) hok).2 (by omega)
  have hsz := br_size a
  obtain ⟨hlt, hc⟩ := get_of_drop (s := br a) (i := 0) (c := 40) (t := a.data.toList ++ [41]) (by rw [br_data]; simp)
  have e0 : adv isBlank (br a) 0 = 0 := adv_stop isBlank hlt (by rw [hc]; decide)
  have : rowP (br a) 0 0 = .error (p, 3) := by
    rw [rowP_eq _ _ _ (by omega)]
    simp only [e0]
    rw [dif_pos hlt, if_neg (by rw [hc]; decide), if_neg (by rw [hc]; decide), if_neg (by omega)]
    simp only [Nat.zero_add, Nat.add_zero] at hp ⊢
    rw [hp]
  unfold parseS
  rw [if_neg (by omega), this]
  exact ⟨rfl, rfl⟩

theorem br_row (a : ByteArray) (hs : a.size ≤ 5000) (ha : (parseS a).2.2 = 0) (hd : (parseS a).1.deep ≠ 400) : parseS (br a) = (.cons ByteArray.empty true 0 ((parseS a).1.sh 1) .nil, 0, 0) := by
  have hok := (parseS_ok (by omega) ha).1
  have hdp := rowP_deep (by omega) (by omega) hok
  have E1 : Emb a (br a) 1 [41] := ⟨[40], by rw [br_data]; simp, rfl⟩
  have h1 := (rowP_emb E1 (by intro c t h; cases h; decide) 1 (a.size + 1) 0 0 _ _ (by omega) (by omega) (by omega) hok).1 (by omega)
  rw [if_neg (by omega)] at h1
  have hsz := br_size a
  obtain ⟨hlt, hc⟩ := get_of_drop (s := br a) (i := 0) (c := 40) (t := a.data.toList ++ [41]) (by rw [br_data]; simp)
  obtain ⟨hlt2, hc2⟩ := get_of_drop (s := br a) (i := 1 + a.size) (c := 41) (t := []) (by rw [br_data, Nat.add_comm]; simp)
  have e0 : adv isBlank (br a) 0 = 0 := adv_stop isBlank hlt (by rw [hc]; decide)
  have e2 : adv isBlank (br a) (1 + a.size) = 1 + a.size := adv_stop isBlank hlt2 (by rw [hc2]; decide)
  have e3 : adv isBlank (br a) (1 + a.size + 1) = 1 + a.size + 1 := adv_end isBlank (by omega)
  have h2 : rowP (br a) (1 + a.size) 1 = .ok (.nil, 1 + a.size) := by
    rw [rowP_eq _ _ _ (by omega)]
    simp only [e2]
    rw [dif_pos hlt2, if_pos hc2]
  have h3 : rowP (br a) (1 + a.size + 1) 0 = .ok (.nil, 1 + a.size + 1) := by
    rw [rowP_eq _ _ _ (by omega)]
    simp only [e3]
    rw [dif_neg (by omega)]
  simp only [Nat.zero_add, Nat.add_zero] at h1
  rw [h2] at h1
  refine parseS_of (by omega) ?_
  rw [rowP_eq _ _ _ (by omega)]
  simp only [e0]
  rw [dif_pos hlt, if_neg (by rw [hc]; decide), if_neg (by rw [hc]; decide), if_neg (by omega)]
  simp only [Nat.zero_add]
  rw [h1]
  simp only [R.pre]
  rw [if_neg (by omega), h3]
  simp [F.app, F.app_nil]
  omega

theorem rowP_size (s : ByteArray) : ∀ n i op f e, i ≤ s.size → s.size - i < n → rowP s i op = .ok (f, e) → f.size + i ≤ e := by
  intro n
  induction n with
  | zero => intro i op f e _ h; omega
  | succ n ih =>
    intro i op f e hi hn h
    rw [rowP_eq s i op hi] at h
    have h1 := adv_ge isBlank s i
    have h2 := adv_le isBlank s i hi
    split at h
    · split at h
      · cases h; simpa [F.size] using h1
      · split at h
        · split at h
          · cases h
          · have h3 := adv_ge isSign s (adv isBlank s i)
            have h4 := adv_le isSign s (adv isBlank s i) h2
            cases hr : rowP s (adv isSign s (adv isBlank s i)) op with
            | error x => rw [hr] at h; cases h
            | ok x =>
              obtain ⟨g, e'⟩ := x
              rw [hr] at h
              simp [R.pre, F.app] at h
              obtain ⟨rfl, rfl⟩ := h
              have := ih _ _ _ _ h4 (by omega) hr
              simp only [F.size]; omega
        · split at h
          · cases h
          · split at h
            · cases h
            · rename_i f1 e1 hr
              have hh := rowP_end (by omega) hr
              have i1 := ih _ _ _ _ (by omega) (by omega) hr
              split at h
              · cases h
              · cases hr2 : rowP s (e1 + 1) op with
                | error x => rw [hr2] at h; cases h
                | ok x =>
                  obtain ⟨g, e'⟩ := x
                  rw [hr2] at h
                  simp [R.pre, F.app] at h
                  obtain ⟨rfl, rfl⟩ := h
                  have i2 := ih _ _ _ _ (by omega) (by omega) hr2
                  simp only [F.size]; omega
    · cases h; simpa [F.size] using h1

theorem parseS_size (s : ByteArray) : (parseS s).1.size ≤ s.size ∧ (parseS s).2.1 ≤ s.size := by
  unfold parseS
  split
  · simp [F.size]
  · cases hr : rowP s 0 0 with
    | error x =>
      obtain ⟨p, er⟩ := x
      exact ⟨by simp [F.size], (rowP_err s _ _ _ _ _ (by omega) (Nat.lt_succ_self _) hr).2⟩
    | ok x =>
      obtain ⟨f, e⟩ := x
      have h1 := rowP_size s _ _ _ _ _ (by omega) (Nat.lt_succ_self _) hr
      have h2 := rowP_end (by omega) hr
      simp only
      split
      · exact ⟨by simp [F.size], by simp; omega⟩
      · exact ⟨by simp; omega, by simp⟩

end Go.Proofs.YthiaikbdghmnbaaDoor
