/- Reading rows of trees in memory, element by element. -/
import Derived.Test.YthiaikbdghmnbaaDoorMem
namespace Go.Proofs.YthiaikbdghmnbaaDoor
open Go.RowKit

/-- The trees of f lie at block b from offset off on, four cells each. -/
def RowAt (D : Nat → Prop) (w : World) (b : Nat) : F → Nat → Prop
  | .nil, _ => True
  | .cons wd r p k rest, off => w.cell? ⟨b, off, none⟩ = some (.string wd) ∧ (∃ kv, w.cell? ⟨b, off + 1, none⟩ = some kv ∧ Sl D w kv k) ∧
      w.cell? ⟨b, off + 2, none⟩ = some (.bool r) ∧ w.cell? ⟨b, off + 3, none⟩ = some (.int .i64 p) ∧ wd.size ≤ maxLen ∧ RowAt D w b rest (off + 4)

theorem rowAt_of {D : Nat → Prop} {w : World} {b : Nat} : ∀ (f : F) (off : Nat) (xs : List Value), Elems D w f xs → (∀ i x, xs[i]? = some x → w.cell? ⟨b, off + i, none⟩ = some x) → RowAt D w b f off
  | .nil, _, _, _, _ => trivial
  | .cons wd r p k rest, off, xs, h, hc => by
    obtain ⟨kv, ys, xs', rfl, hs, h1, h2, h3⟩ := h
    refine ⟨hc 0 _ rfl, ⟨kv, hc 1 _ rfl, ys, h1, h2⟩, hc 2 _ rfl, hc 3 _ rfl, hs, rowAt_of rest (off + 4) xs' h3 fun i x hi => ?_⟩
    have := hc (i + 4) x (by simpa using hi)
    rwa [show off + 4 + i = off + (i + 4) by omega]

theorem Sl.rowAt {D : Nat → Prop} {w : World} {v : Value} {f : F} (h : Sl D w v f) :
    ∃ a cap, v = .slice a f.len cap ∧ f.len ≤ cap ∧ cap ≤ maxLen ∧ (f = .nil ∨ ∃ b off, a = some ⟨b, off, none⟩ ∧ D b ∧ RowAt D w b f off) := by
  obtain ⟨ys, he, a, cap, rfl, h1, h2, _, h3⟩ := h
  refine ⟨a, cap, rfl, h1, h2, ?_⟩
  rcases h3 with rfl | ⟨b, off, rfl, hD, hc⟩
  · left
    cases f with
    | nil => rfl
    | cons _ _ _ _ _ => have := he.length; simp [F.len] at this
  · exact .inr ⟨b, off, rfl, hD, rowAt_of f off ys he hc⟩

theorem Sl.rowAt' {D : Nat → Prop} {w : World} {v : Value} {f : F} (h : Sl D w v f) :
    ∃ a cap b off, v = .slice a f.len cap ∧ f.len ≤ cap ∧ cap ≤ maxLen ∧ (0 < f.len → a = some ⟨b, off, none⟩ ∧ D b) ∧ RowAt D w b f off := by
  obtain ⟨a, cap, rfl, h1, h2, h3⟩ := h.rowAt
  rcases h3 with rfl | ⟨b, off, rfl, hD, h3⟩
  · exact ⟨a, cap, 0, 0, rfl, h1, h2, fun h => by simp [F.len] at h, trivial⟩
  · exact ⟨_, cap, b, off, rfl, h1, h2, fun _ => ⟨rfl, hD⟩, h3⟩

theorem Sl.cons {D : Nat → Prop} {w : World} {v : Value} {wd : ByteArray} {r : Bool} {p : Int} {k rest : F} (h : Sl D w v (.cons wd r p k rest)) :
    ∃ b off cap, v = .slice (some ⟨b, off, none⟩) (rest.len + 1) cap ∧ rest.len + 1 ≤ cap ∧ cap ≤ maxLen ∧ D b ∧ RowAt D w b (.cons wd r p k rest) off := by
  obtain ⟨a, cap, rfl, h1, h2, h3⟩ := h.rowAt
  rcases h3 with h3 | ⟨b, off, rfl, hD, h3⟩
  · cases h3
  · exact ⟨b, off, cap, rfl, h1, h2, hD, h3⟩

theorem Ext.sl {D M : Nat → Prop} {w w' : World} {v : Value} {f : F} (he : Ext M w w') (h : Sl D w v f) (hm : ∀ b, D b → ¬ M b) : Sl D w' v f := h.ext he hm

theorem RowAt.ext {D M : Nat → Prop} {w w' : World} {b : Nat} (he : Ext M w w') (hm : ∀ b, D b → ¬ M b) (hb : ¬ M b) : ∀ (f : F) (off : Nat), RowAt D w b f off → RowAt D w' b f off
  | .nil, _, _ => trivial
  | .cons _ _ _ _ rest, off, ⟨h0, ⟨kv, h1, hk⟩, h2, h3, h4, h5⟩ =>
    ⟨he.cellSome h0 hb, ⟨kv, he.cellSome h1 hb, hk.ext he hm⟩, he.cellSome h2 hb, he.cellSome h3 hb, h4, RowAt.ext he hm hb rest (off + 4) h5⟩
theorem RowAt.drewN {D : Nat → Prop} {w : World} {b : Nat} {f : F} {off : Nat} (h : RowAt D w b f off) (n : Nat) : RowAt D (w.drewN n) b f off :=
  RowAt.ext (ext_drewN w n (fun _ => False)) (fun _ _ h => h) id f off h

end Go.Proofs.YthiaikbdghmnbaaDoor
