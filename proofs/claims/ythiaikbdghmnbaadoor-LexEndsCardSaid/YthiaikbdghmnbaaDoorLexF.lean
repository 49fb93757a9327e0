/- Rows of trees: their size, their shape, their depth. No program stands here. -/
import Derived.Test.YthiaikbdghmnbaaDoorBase
namespace Go.Proofs.YthiaikbdghmnbaaDoor

namespace F
def size : F → Nat | .nil => 0 | .cons _ _ _ k t => k.size + t.size + 1
/-- The same but for places? -/
def shape : F → F → Bool
  | .nil, .nil => true
  | .cons wd r _ k t, .cons wd' r' _ k' t' => wd.data.toList == wd'.data.toList && r == r' && k.shape k' && t.shape t'
  | _, _ => false
/-- How many rows stand within each other. -/
def deep : F → Nat
  | .nil => 0
  | .cons _ r _ k t => max (if r then k.deep + 1 else 0) t.deep
theorem shape_len : ∀ {f g : F}, f.shape g = true → f.len = g.len
  | .nil, .nil, _ => rfl
  | .cons _ _ _ _ t, .cons _ _ _ _ t', h => by
    simp only [shape, Bool.and_eq_true] at h
    simp [len, shape_len h.2]
  | .nil, .cons _ _ _ _ _, h => by cases h
  | .cons _ _ _ _ _, .nil, h => by cases h
theorem len_le_size : ∀ f : F, f.len ≤ f.size
  | .nil => Nat.le_refl _
  | .cons _ _ _ k t => by have := len_le_size t; simp [len, size]; omega
end F

end Go.Proofs.YthiaikbdghmnbaaDoor
