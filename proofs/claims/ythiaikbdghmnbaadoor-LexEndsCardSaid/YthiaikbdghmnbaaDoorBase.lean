/- Words for what lies in memory: worlds that differ in some blocks alone (Ext), rows of trees in memory (Elems, Sl). No program stands here. -/
import Derived.WalkKit
import Derived.WalkSpells
import Derived.WalkLawsBesides
import Derived.Deep.QuietTactic
import Derived.Lib.Hide
import Derived.Lib.Bytealg
namespace Go.Proofs.YthiaikbdghmnbaaDoor
open Go.RowKit

/-- The worlds differ, in old blocks, at blocks of M alone. -/
structure Ext (M : Nat → Prop) (w w' : World) : Prop where
  os : w'.os = w.os
  tape : w'.tape = w.tape
  output : w'.output = w.output
  size : w.heap.size ≤ w'.heap.size
  block : ∀ k, k < w.heap.size → ¬ M k → w'.heap[k]? = w.heap[k]?

namespace Ext
variable {M M' : Nat → Prop} {a b c w w' : World}
theorem refl (M : Nat → Prop) (w : World) : Ext M w w := ⟨rfl, rfl, rfl, Nat.le_refl _, fun _ _ _ => rfl⟩
theorem trans (h : Ext M a b) (k : Ext M' b c) (hm : ∀ i, i < a.heap.size → M' i → M i) : Ext M a c :=
  ⟨k.os.trans h.os, k.tape.trans h.tape, k.output.trans h.output, Nat.le_trans h.size k.size,
    fun i hi hn => (k.block i (Nat.lt_of_lt_of_le hi h.size) (fun hM => hn (hm i hi hM))).trans (h.block i hi hn)⟩
theorem trans' (h : Ext M a b) (k : Ext M b c) : Ext M a c := h.trans k fun _ _ h => h
theorem mono (h : Ext M a b) (hm : ∀ i, i < a.heap.size → M i → M' i) : Ext M' a b :=
  ⟨h.os, h.tape, h.output, h.size, fun i hi hn => h.block i hi fun hM => hn (hm i hi hM)⟩
theorem drew (h : Ext M a w) : Ext M a w.drew := ⟨h.os, h.tape, h.output, h.size, h.block⟩
theorem drewN (h : Ext M a w) (n : Nat) : Ext M a (w.drewN n) := ⟨h.os, h.tape, h.output, h.size, h.block⟩
theorem alloc (h : Ext M a w) (o : Obj) : Ext M a (w.alloc o) :=
  ⟨h.os, h.tape, h.output, by have := h.size; simp; omega, fun k hk hn => by
    rw [Below.heap_alloc _ _ _ (Nat.lt_of_lt_of_le hk h.size)]; exact h.block k hk hn⟩
theorem setCell (h : Ext M a w) {p : Addr} (hp : p.block < a.heap.size → M p.block) (u : Value) : Ext M a (w.setCell p u) :=
  ⟨h.os, h.tape, h.output, by have := h.size; simp [World.setCell]; omega, fun k hk hn => by
    rw [Below.heap_setCell _ _ _ _ (fun e => hn (by subst e; exact hp hk))]; exact h.block k hk hn⟩
theorem grown (h : Ext M a w) {row : Option Nat} (hg : w.grownBy w' row) (hr : ∀ k, row = some k → k < a.heap.size → M k) : Ext M a w' :=
  ⟨hg.os.trans h.os, hg.tape.trans h.tape, hg.output.trans h.output, Nat.le_trans h.size hg.size, fun k hk hn =>
    (hg.block k (Nat.lt_of_lt_of_le hk h.size) (fun e => hn (hr k e.symm hk))).trans (h.block k hk hn)⟩
theorem below (h : Ext (fun _ => False) a b) : Below a.heap.size a b := ⟨h.os, h.tape, h.output, h.size, fun k hk => h.block k hk id⟩
theorem ofBelow (h : Below a.heap.size a b) : Ext M a b := ⟨h.os, h.tape, h.output, h.size, fun k hk _ => h.block k hk⟩
theorem cell (h : Ext M a b) {p : Addr} (hp : p.block < a.heap.size) (hn : ¬ M p.block) : b.cell? p = a.cell? p := World.cell?_of_block (w := a) (h.block p.block hp hn)
theorem cellSome (h : Ext M a b) {p : Addr} {v : Value} (hv : a.cell? p = some v) (hn : ¬ M p.block) : b.cell? p = some v :=
  (h.cell (World.block_lt_of_cell? a p hv) hn).trans hv
end Ext

/-- A callee that leaves the world alone, in a region that draws. -/
theorem quiet_eq {P : Program} {f : FuncId} {args : Array Value} {w : World} {n : Nat} {v : Value}
    (h : Calls P f args (w.drewN n) fun e w' => e = .returned v ∧ w.drewN n = w') : Calls P f args (w.drewN n) fun e w'' => e = .returned v ∧ ∃ m, w'' = w.drewN m :=
  h.mono fun _ _ ⟨he, hm⟩ => ⟨he, n, hm.symm⟩

theorem ext_drewN (w : World) (n : Nat) (M : Nat → Prop) : Ext M w (w.drewN n) := (Ext.refl M w).drewN n

/-- A block of cells, known whole. -/
def Blk (w : World) (b : Nat) (cs : Array Value) (t : TypeId) : Prop := w.heap[b]? = some (.cells cs t (0, 0))

namespace Blk
variable {w w' : World} {b : Nat} {cs : Array Value} {t : TypeId}
theorem lt (h : Blk w b cs t) : b < w.heap.size := (Array.getElem?_eq_some_iff.1 h).1
theorem cell (h : Blk w b cs t) (i : Nat) : w.cell? ⟨b, i, none⟩ = cs[i]? := by
  have h' : w.heap[b]? = some (.cells cs t (0, 0)) := h
  simp [World.cell?, h']
theorem frozen (h : Blk w b cs t) (i : Nat) : w.frozen? ⟨b, i, none⟩ = false := by
  have h' : w.heap[b]? = some (.cells cs t (0, 0)) := h
  simp only [World.frozen?, h']; simp
theorem ext {M : Nat → Prop} (h : Blk w b cs t) (he : Ext M w w') (hm : ¬ M b) : Blk w' b cs t := (he.block b h.lt hm).trans h
theorem set (h : Blk w b cs t) (i : Nat) (u : Value) : Blk (w.setCell ⟨b, i, none⟩ u) b (cs.setIfInBounds i u) t := by
  have h' : w.heap[b]? = some (.cells cs t (0, 0)) := h
  unfold Blk World.setCell
  simp only [Array.getElem?_modify, if_true, h', Option.map_some, Option.isSome_none, Bool.false_eq_true, if_false]
theorem setOther (h : Blk w b cs t) (p : Addr) (hp : p.block ≠ b) (u : Value) : Blk (w.setCell p u) b cs t := by
  unfold Blk; rw [Below.heap_setCell _ _ _ _ (Ne.symm hp)]; exact h
theorem alloc (h : Blk w b cs t) (o : Obj) : Blk (w.alloc o) b cs t := by
  unfold Blk; rw [Below.heap_alloc _ _ _ h.lt]; exact h
theorem new (w : World) (cs : Array Value) (t : TypeId) : Blk (w.alloc (.cells cs t)) w.heap.size cs t := heap_alloc_new w _
theorem drewN (h : Blk w b cs t) (n : Nat) : Blk (w.drewN n) b cs t := h
theorem drew (h : Blk w b cs t) : Blk w.drew b cs t := h
end Blk

/-- Rows of trees, first tree first: its word, is it a row, its place, its own row; then the others. -/
inductive F where
  | nil
  | cons (word : ByteArray) (row : Bool) (pos : Int) (kids rest : F)

namespace F
def len : F → Nat | .nil => 0 | .cons _ _ _ _ r => r.len + 1
def app : F → F → F | .nil, g => g | .cons w r p k t, g => .cons w r p k (t.app g)
theorem app_nil : ∀ f : F, f.app .nil = f | .nil => rfl | .cons _ _ _ _ t => by simp [app, app_nil t]
theorem app_assoc : ∀ f g h : F, (f.app g).app h = f.app (g.app h) | .nil, _, _ => rfl | .cons _ _ _ _ t, g, h => by simp [app, app_assoc t]
theorem len_app : ∀ f g : F, (f.app g).len = f.len + g.len | .nil, g => by simp [app, len] | .cons _ _ _ _ t, g => by simp [app, len, len_app t]; omega
end F

/-- v is a slice of n elements whose cells are ys; what it leads to lies in blocks of D. -/
def Held (D : Nat → Prop) (w : World) (v : Value) (n : Nat) (ys : List Value) : Prop :=
  ∃ a cap, v = .slice a n cap ∧ n ≤ cap ∧ cap ≤ maxLen ∧ (a = none → cap = 0) ∧ (ys = [] ∨ ∃ b off, a = some ⟨b, off, none⟩ ∧ D b ∧ ∀ i x, ys[i]? = some x → w.cell? ⟨b, off + i, none⟩ = some x)

/-- The cells of a row of trees. -/
def Elems (D : Nat → Prop) (w : World) : F → List Value → Prop
  | .nil, xs => xs = []
  | .cons wd r p k rest, xs => ∃ kv ys xs', xs = .string wd :: kv :: .bool r :: .int .i64 p :: xs' ∧ wd.size ≤ maxLen ∧ Elems D w k ys ∧ Held D w kv k.len ys ∧ Elems D w rest xs'

def Sl (D : Nat → Prop) (w : World) (v : Value) (f : F) : Prop := ∃ ys, Elems D w f ys ∧ Held D w v f.len ys

theorem Held.move {D D' : Nat → Prop} {w w' : World} {v : Value} {n : Nat} {ys : List Value} (h : Held D w v n ys)
    (hb : ∀ b, D b → b < w.heap.size → w'.heap[b]? = w.heap[b]?) (hd : ∀ b, D b → b < w.heap.size → D' b) : Held D' w' v n ys := by
  obtain ⟨a, cap, rfl, hc, hm, hz, h⟩ := h
  refine ⟨a, cap, rfl, hc, hm, hz, ?_⟩
  rcases h with h | ⟨b, off, rfl, hD, hcell⟩
  · exact .inl h
  · cases ys with
    | nil => exact .inl rfl
    | cons y ys =>
      have hlt : b < w.heap.size := World.block_lt_of_cell? w ⟨b, off + 0, none⟩ (hcell 0 y rfl)
      exact .inr ⟨b, off, rfl, hd b hD hlt, fun i x hi => (World.cell?_of_block (a := ⟨b, off + i, none⟩) (hb b hD hlt)).trans (hcell i x hi)⟩

theorem Elems.move {D D' : Nat → Prop} {w w' : World} (hb : ∀ b, D b → b < w.heap.size → w'.heap[b]? = w.heap[b]?) (hd : ∀ b, D b → b < w.heap.size → D' b) :
    ∀ (f : F) (xs : List Value), Elems D w f xs → Elems D' w' f xs
  | .nil, _, h => h
  | .cons _ _ _ k rest, _, h => by
    obtain ⟨kv, ys, xs', e, hs, h1, h2, h3⟩ := h
    exact ⟨kv, ys, xs', e, hs, Elems.move hb hd k ys h1, h2.move hb hd, Elems.move hb hd rest xs' h3⟩

theorem Sl.move {D D' : Nat → Prop} {w w' : World} {v : Value} {f : F} (h : Sl D w v f) (hb : ∀ b, D b → b < w.heap.size → w'.heap[b]? = w.heap[b]?) (hd : ∀ b, D b → b < w.heap.size → D' b) : Sl D' w' v f := by
  obtain ⟨ys, h1, h2⟩ := h
  exact ⟨ys, Elems.move hb hd f ys h1, h2.move hb hd⟩

theorem Sl.ext {D M : Nat → Prop} {w w' : World} {v : Value} {f : F} (h : Sl D w v f) (he : Ext M w w') (hm : ∀ b, D b → ¬ M b) : Sl D w' v f :=
  h.move (fun b hD hlt => he.block b hlt (hm b hD)) fun _ h _ => h
theorem Elems.ext {D M : Nat → Prop} {w w' : World} {f : F} {xs : List Value} (h : Elems D w f xs) (he : Ext M w w') (hm : ∀ b, D b → ¬ M b) : Elems D w' f xs :=
  Elems.move (fun b hD hlt => he.block b hlt (hm b hD)) (fun _ h _ => h) f xs h
theorem Sl.mono {D D' : Nat → Prop} {w : World} {v : Value} {f : F} (h : Sl D w v f) (hd : ∀ b, D b → b < w.heap.size → D' b) : Sl D' w v f := h.move (fun _ _ _ => rfl) hd
theorem Elems.mono {D D' : Nat → Prop} {w : World} {f : F} {xs : List Value} (h : Elems D w f xs) (hd : ∀ b, D b → b < w.heap.size → D' b) : Elems D' w f xs := Elems.move (fun _ _ _ => rfl) hd f xs h

theorem Elems.length {D : Nat → Prop} {w : World} : ∀ {f : F} {xs : List Value}, Elems D w f xs → xs.length = f.len * 4
  | .nil, _, h => by rw [show _ = [] from h]; rfl
  | .cons _ _ _ _ rest, _, h => by
    obtain ⟨kv, ys, xs', rfl, _, _, _, h3⟩ := h
    simp [Elems.length h3, F.len]; omega

theorem Elems.app {D : Nat → Prop} {w : World} : ∀ {f g : F} {xs ys : List Value}, Elems D w f xs → Elems D w g ys → Elems D w (f.app g) (xs ++ ys)
  | .nil, _, _, _, h, h' => by rw [show _ = [] from h]; exact h'
  | .cons _ _ _ _ rest, _, _, _, h, h' => by
    obtain ⟨kv, zs, xs', rfl, hs, h1, h2, h3⟩ := h
    exact ⟨kv, zs, xs' ++ _, rfl, hs, h1, h2, Elems.app h3 h'⟩

theorem Sl.nil (D : Nat → Prop) (w : World) : Sl D w (.slice none 0 0) .nil := ⟨[], rfl, none, 0, rfl, Nat.le_refl _, Nat.zero_le _, fun _ => rfl, .inl rfl⟩

/-- What a call owns is held. -/
theorem held_of_owns {w : World} {base e size : Nat} {v : Value} {n : Nat} {xs : List Value} (h : w.ownsRow base e size v n xs) : Held (fun b => v.ownBlock = some b ∧ base ≤ b) w v n xs := by
  have hc := fun g => h.cells (g := g)
  rcases h with ⟨hl, ⟨rfl, rfl⟩ | ⟨g, cap, cur, rfl, hb, hg, hn, hm, hs, ht⟩⟩
  · exact ⟨none, 0, rfl, Nat.le_refl _, Nat.zero_le _, fun _ => rfl, .inl (List.eq_nil_of_length_eq_zero (by simpa using hl))⟩
  · refine ⟨_, cap, rfl, hn, hm, (fun h => by cases h), .inr ⟨g, 0, rfl, ⟨rfl, hb⟩, fun i x hi => ?_⟩⟩
    have := hc g rfl i x hi
    rw [← this]; congr 1; unfold Addr.add; split <;> simp_all

/-- An owned row of trees whose parts lie in D is a slice of trees. -/
theorem sl_of_owns {D : Nat → Prop} {w : World} {base e : Nat} {v : Value} {f : F} {xs : List Value} (h : w.ownsRow base e 4 v f.len xs) (he : Elems D w f xs) :
    Sl (fun b => D b ∨ (v.ownBlock = some b ∧ base ≤ b)) w v f :=
  ⟨xs, he.mono (fun _ h _ => .inl h), (held_of_owns h).move (fun _ _ _ => rfl) fun _ h _ => .inr h⟩

theorem sl_owned {w : World} {base e : Nat} {v : Value} {f : F} {xs : List Value} (h : w.ownsRow base e 4 v f.len xs) (he : Elems (fun b => base ≤ b ∧ v.ownBlock ≠ some b) w f xs) :
    Sl (fun b => base ≤ b) w v f :=
  (sl_of_owns h he).mono fun _ hb _ => hb.elim (fun h => h.1) (fun h => h.2)
theorem Sl.drewN {D : Nat → Prop} {w : World} {v : Value} {f : F} (h : Sl D w v f) (n : Nat) : Sl D (w.drewN n) v f := h.ext (ext_drewN w n (fun _ => False)) (fun _ _ h => h)
theorem Elems.drewN {D : Nat → Prop} {w : World} {f : F} {xs : List Value} (h : Elems D w f xs) (n : Nat) : Elems D (w.drewN n) f xs := h.ext (ext_drewN w n (fun _ => False)) (fun _ _ h => h)

theorem owns_ext {M : Nat → Prop} {w w' : World} {base e size : Nat} {v : Value} {n : Nat} {xs : List Value} (h : w.ownsRow base e size v n xs) (he : Ext M w w') (hm : ∀ b, v.ownBlock = some b → base ≤ b → ¬ M b) : w'.ownsRow base e size v n xs := by
  refine ⟨h.1, ?_⟩
  rcases h.2 with hn | ⟨g, cap, cur, rfl, hb, hgg, rest⟩
  · exact .inl hn
  · exact .inr ⟨g, cap, cur, rfl, hb, (he.block g (Array.getElem?_eq_some_iff.1 hgg).1 (hm g rfl hb)).trans hgg, rest⟩

theorem Sl.shape {D : Nat → Prop} {w : World} {v : Value} {f : F} (h : Sl D w v f) : ∃ a cap, v = .slice a f.len cap ∧ f.len ≤ cap ∧ cap ≤ maxLen := by
  obtain ⟨ys, _, a, cap, h1, h2, h3, _⟩ := h; exact ⟨a, cap, h1, h2, h3⟩

end Go.Proofs.YthiaikbdghmnbaaDoor
