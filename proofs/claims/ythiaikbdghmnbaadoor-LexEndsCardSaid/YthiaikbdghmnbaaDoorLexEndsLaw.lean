/- The plain laws of LexEnds: a word as long as a text may be; rows as deep as may be. No program stands here. -/
import Derived.Test.YthiaikbdghmnbaaDoorLexTx
import Derived.Test.YthiaikbdghmnbaaDoorArg
import Derived.Lib.Repeat
namespace Go.Proofs.YthiaikbdghmnbaaDoor

theorem F.shape_wt : ∀ {f g : F}, f.shape g = true → f.wt = g.wt
  | .nil, .nil, _ => rfl
  | .cons wd r _ k t, .cons wd' r' _ k' t', h => by
    simp only [shape, Bool.and_eq_true, beq_iff_eq] at h
    obtain ⟨⟨⟨h1, h2⟩, h3⟩, h4⟩ := h
    have e : wd.size = wd'.size := by rw [Lib.size_eq, Lib.size_eq, h1]
    simp [wt, e, shape_wt h3, shape_wt h4]
  | .nil, .cons _ _ _ _ _, h => by cases h
  | .cons _ _ _ _ _, .nil, h => by cases h

theorem mem_repeatL (c x : UInt8) : ∀ n, x ∈ Lib.repeatL [c] n → x = c
  | 0, h => by simp [Lib.repeatL] at h
  | n + 1, h => by
    simp only [Lib.repeatL, List.cons_append, List.nil_append, List.mem_cons] at h
    rcases h with h | h
    · exact h
    · exact mem_repeatL c x n h

theorem long_law (L : ByteArray) (n : Nat) (hL : L.data.toList = Lib.repeatL [97] n) (h0 : 0 < n) (hn : n ≤ 262144) : ∃ g, parseS L = (g, 0, 0) ∧ g.len = 1 ∧ g.wt = n + 1 := by
  have hs : L.size = n := by rw [Lib.size_eq, hL, Lib.repeatL_length]; simp
  obtain ⟨g, hg, hsh⟩ := rowP_tx L (.cons L false 0 .nil .nil) false 0 0 [] ⟨.inr ⟨rfl, rfl, by omega, fun c hc => by rw [hL] at hc; rw [mem_repeatL 97 c n hc]; decide⟩, trivial⟩ (by omega) (by simp [F.txB]) (by intro c t h; cases h) (by simp [F.deep])
  have hlen : (F.txB false (.cons L false 0 .nil .nil)).length = L.size := by simp [F.txB]
  rw [hlen, Nat.zero_add] at hg
  refine ⟨g, parseS_of (by omega) hg, by rw [← F.shape_len hsh]; rfl, ?_⟩
  rw [← F.shape_wt hsh]
  simp [F.wt, hs]

/-- So many rows within each other. -/
def F.nest : Nat → F
  | 0 => .nil
  | n + 1 => .cons ByteArray.empty true 0 (F.nest n) .nil

theorem nest_wf : ∀ n, Wf (F.nest n)
  | 0 => trivial
  | n + 1 => ⟨.inl ⟨rfl, rfl, nest_wf n⟩, trivial⟩
theorem nest_deep : ∀ n, (F.nest n).deep = n
  | 0 => rfl
  | n + 1 => by simp [F.nest, F.deep, nest_deep n]
theorem nest_tx : ∀ n, F.txB false (F.nest n) = Lib.repeatL [40] n ++ Lib.repeatL [41] n
  | 0 => rfl
  | n + 1 => by
    have h : Lib.repeatL [41] (n + 1) = Lib.repeatL [41] n ++ [41] := by rw [Lib.repeatL_add]; rfl
    rw [h]
    simp [F.nest, F.txB, nest_tx n, Lib.repeatL]

theorem deep_law (L : ByteArray) (n : Nat) (hL : L.data.toList = Lib.repeatL [40] n ++ Lib.repeatL [41] n) (hn : n ≤ 400) : ∃ g, parseS L = (g, 0, 0) ∧ g.deep = n ∧ g.size ≤ 262144 := by
  have hs : L.size = 2 * n := by rw [Lib.size_eq, hL, List.length_append, Lib.repeatL_length, Lib.repeatL_length]; simp; omega
  obtain ⟨g, hg, hsh⟩ := rowP_tx L (F.nest n) false 0 0 [] (nest_wf n) (by omega) (by rw [nest_tx, hL]; simp) (by intro c t h; cases h) (by rw [nest_deep]; omega)
  have hlen : (F.txB false (F.nest n)).length = L.size := by rw [nest_tx, ← hL, ← Lib.size_eq]
  rw [hlen, Nat.zero_add] at hg
  have hp := parseS_of (by omega) hg
  refine ⟨g, hp, by rw [← F.shape_deep hsh, nest_deep], ?_⟩
  have := (parseS_size L).1
  rw [hp] at this
  have h' : g.size ≤ L.size := this
  omega

end Go.Proofs.YthiaikbdghmnbaaDoor
