/- The memory of the reference's reader. -/
import Derived.Test.YthiaikbdghmnbaaDoorLexW1
import Derived.Test.YthiaikbdghmnbaaDoorRead
import Derived.Test.YthiaikbdghmnbaaDoorHeld
import Derived.BigRegion
namespace Go.Proofs.YthiaikbdghmnbaaDoor
open Go.RowKit

theorem Tryd.infoRTree : (Tryd.prog.info? 83).map (fun i => (i.zero, i.size, i.bytes)) = some (some (.agg #[.string ⟨#[]⟩, .slice none 0 0, .bool false, .int .i64 0]), 4, 56) := by kernel_rfl
theorem Tryd.infoRRow : (Tryd.prog.info? 37).map (fun i => (i.zero, i.size, i.bytes)) = some (some (.slice none 0 0), 1, 24) := by kernel_rfl
theorem Tryd.infoInt : (Tryd.prog.info? 3).map (fun i => (i.zero, i.size, i.bytes)) = some (some (.int .i64 0), 1, 8) := by kernel_rfl
theorem Tryd.eltRTree : Elt Tryd.prog 37 83 4 56 := by
  obtain ⟨i0, hi0, hz0, hz1, hz2⟩ := info_parts Tryd.infoRTree
  exact ⟨i0, _, Tryd.underlying37, hi0, hz0, hz1, hz2, rfl, by decide⟩
theorem Tryd.eltRRow : Elt Tryd.prog 76 37 1 24 := by
  obtain ⟨i0, hi0, hz0, hz1, hz2⟩ := info_parts Tryd.infoRRow
  exact ⟨i0, _, Tryd.underlying76, hi0, hz0, hz1, hz2, rfl, by decide⟩
theorem Tryd.eltInt : Elt Tryd.prog 77 3 1 8 := by
  obtain ⟨i0, hi0, hz0, hz1, hz2⟩ := info_parts Tryd.infoInt
  exact ⟨i0, _, Tryd.underlying77, hi0, hz0, hz1, hz2, rfl, by decide⟩

/-- Of what is open: each row owned, its trees' parts elsewhere (D). The last one that was opened stands first. -/
def RowsOK (D : Nat → Prop) (w : World) (base : Nat) : List (F × Nat) → List Value → Prop
  | [], [] => True
  | (f, _) :: st, v :: vs => (∃ xs, w.ownsRow base 83 4 v f.len xs ∧ Elems D w f xs) ∧ RowsOK D w base st vs
  | _, _ => False

/-- Blocks of the call's own that none of these slices lies in. -/
def Free (base br : Nat) (os : List Value) (b : Nat) : Prop := base ≤ b ∧ b ≠ br ∧ ∀ o ∈ os, o.ownBlock ≠ some b

/-- The machine's memory: the struct at br, its two slices, the rows that are open. -/
structure Stk (w : World) (base br : Nat) (st : List (F × Nat)) (lv bv : Value) (vs : List Value) : Prop where
  blk : Blk w br #[lv, bv] 79
  bbr : base ≤ br
  lown : w.ownsRow base 37 1 lv vs.length vs.reverse
  bown : w.ownsRow base 3 1 bv st.length (st.map fun x => Value.int .i64 x.2).reverse
  rows : RowsOK (Free base br (lv :: bv :: vs)) w base st vs
  apart : (lv :: bv :: vs).Pairwise fun x y => ∀ b, x.ownBlock = some b → y.ownBlock ≠ some b
  abr : ∀ x ∈ lv :: bv :: vs, x.ownBlock ≠ some br

theorem RowsOK.length {D : Nat → Prop} {w : World} {base : Nat} : ∀ {st : List (F × Nat)} {vs : List Value}, RowsOK D w base st vs → st.length = vs.length
  | [], [], _ => rfl
  | (_, _) :: _, _ :: _, h => by simp [RowsOK.length h.2]
  | [], _ :: _, h => h.elim
  | _ :: _, [], h => h.elim

/-- Changes at blocks M that none of the rows lies in. -/
theorem RowsOK.move {D D' M : Nat → Prop} {w w' : World} {base : Nat} (he : Ext M w w') (hD : ∀ b, D b → b < w.heap.size → ¬ M b) (hD' : ∀ b, D b → b < w.heap.size → D' b) :
    ∀ {st : List (F × Nat)} {vs : List Value}, (∀ v ∈ vs, ∀ b, v.ownBlock = some b → ¬ M b) → RowsOK D w base st vs → RowsOK D' w' base st vs
  | [], [], _, _ => trivial
  | (f, _) :: _, v :: _, hv, ⟨⟨xs, h1, h2⟩, h3⟩ =>
    ⟨⟨xs, owns_ext h1 he (fun b hb _ => hv v (List.mem_cons_self ..) b hb), Elems.move (fun b hb hlt => he.block b hlt (hD b hb hlt)) hD' f xs h2⟩, RowsOK.move he hD hD' (fun u hu => hv u (List.mem_cons_of_mem _ hu)) h3⟩
  | [], _ :: _, _, h => h.elim
  | _ :: _, [], _, h => h.elim

theorem Stk.ext {w w' : World} {base br : Nat} {st : List (F × Nat)} {lv bv : Value} {vs : List Value} (h : Stk w base br st lv bv vs) (he : Ext (fun _ => False) w w') : Stk w' base br st lv bv vs :=
  ⟨h.blk.ext he id, h.bbr, owns_ext h.lown he (fun _ _ _ h => h), owns_ext h.bown he (fun _ _ _ h => h), RowsOK.move he (fun _ _ _ h => h) (fun _ h _ => h) (fun _ _ _ _ h => h) h.rows, h.apart, h.abr⟩

theorem RowsOK.lt {D : Nat → Prop} {w : World} {base : Nat} : ∀ {st : List (F × Nat)} {vs : List Value}, RowsOK D w base st vs → ∀ u ∈ vs, ∀ b, u.ownBlock = some b → base ≤ b ∧ b < w.heap.size
  | [], [], _, u, hu => by simp at hu
  | (_, _) :: _, v :: _, ⟨⟨_, h1, _⟩, h3⟩, u, hu => by
    rcases List.mem_cons.1 hu with rfl | hu
    · exact h1.lt
    · exact RowsOK.lt h3 u hu
  | [], _ :: _, h, _, _ => h.elim
  | _ :: _, [], h, _, _ => h.elim

/-- Behind a put: the top row v' has one tree more; what changed lies in the old row's block, in the rows' slice, or in new blocks. -/
theorem Stk.put {w w' : World} {base br g cap : Nat} {f : F} {b : Nat} {st : List (F × Nat)} {bv v v' : Value} {vs xs : List Value} {wd : ByteArray} {kv : Value} {k : F} {r : Bool} {p : Int}
    (h : Stk w base br ((f, b) :: st) (.slice (some ⟨g, 0, none⟩) (vs.length + 1) cap) bv (v :: vs)) (hx : Ext (fun c => v.ownBlock = some c ∨ c = g) w w')
    (hl : w'.ownsRow base 37 1 (.slice (some ⟨g, 0, none⟩) (vs.length + 1) cap) (vs.length + 1) (v' :: vs).reverse)
    (ho : w'.ownsRow base 83 4 v' (f.len + 1) (xs ++ [.string wd, kv, .bool r, .int .i64 p]))
    (hn : ∀ b, v'.ownBlock = some b → v.ownBlock = some b ∨ w.heap.size ≤ b)
    (hel : Elems (Free base br (.slice (some ⟨g, 0, none⟩) (vs.length + 1) cap :: bv :: v :: vs)) w f xs) (hk : Sl (Free base br (.slice (some ⟨g, 0, none⟩) (vs.length + 1) cap :: bv :: v :: vs)) w kv k) (hwd : wd.size ≤ maxLen) :
    Stk w' base br ((f.app (.cons wd r p k .nil), b) :: st) (.slice (some ⟨g, 0, none⟩) (vs.length + 1) cap) bv (v' :: vs) := by
  have abr := h.abr
  have ap := h.apart
  simp only [List.pairwise_cons] at ap
  obtain ⟨ap1, ap2, ap3, ap4⟩ := ap
  have hrest := h.rows.2
  have hlt := hrest.lt
  have hgb : g ≠ br := fun e => abr (.slice (some ⟨g, 0, none⟩) (vs.length + 1) cap) (List.mem_cons_self ..) (by simp [Value.ownBlock, e])
  have hvb : v.ownBlock ≠ some br := abr v (by simp)
  have hvg : v.ownBlock ≠ some g := ap1 v (by simp) g rfl
  have hg := h.lown.lt g rfl
  have hb := h.bown.lt
  have hD : ∀ c, Free base br (.slice (some ⟨g, 0, none⟩) (vs.length + 1) cap :: bv :: v :: vs) c → c < w.heap.size → ¬ (v.ownBlock = some c ∨ c = g) := fun c hc _ h => by
    rcases h with h | h
    · exact hc.2.2 v (by simp) h
    · exact hc.2.2 (.slice (some ⟨g, 0, none⟩) (vs.length + 1) cap) (by simp) (by simp [Value.ownBlock, h])
  have hD' : ∀ c, Free base br (.slice (some ⟨g, 0, none⟩) (vs.length + 1) cap :: bv :: v :: vs) c → c < w.heap.size → Free base br (.slice (some ⟨g, 0, none⟩) (vs.length + 1) cap :: bv :: v' :: vs) c := fun c hc hlt => by
    refine ⟨hc.1, hc.2.1, fun o ho => ?_⟩
    simp only [List.mem_cons] at ho
    rcases ho with rfl | rfl | rfl | ho
    · exact hc.2.2 _ (by simp)
    · exact hc.2.2 _ (by simp)
    · intro e
      rcases hn c e with e | e
      · exact hc.2.2 v (by simp) e
      · omega
    · exact hc.2.2 o (by simp [ho])
  refine ⟨h.blk.ext hx ?_, h.bbr, by simpa using hl, ?_, ⟨⟨xs ++ [.string wd, kv, .bool r, .int .i64 p], ?_, ?_⟩, ?_⟩, ?_, ?_⟩
  · intro e
    rcases e with e | e
    · exact hvb e
    · exact hgb e.symm
  · refine owns_ext (by simpa using h.bown) hx fun c hc _ e => ?_
    rcases e with e | e
    · exact ap2 v (by simp) c hc e
    · exact ap1 bv (by simp) g rfl (by rw [hc, e])
  · rw [F.len_app]; exact ho
  · exact Elems.snoc (Elems.move (fun c hc hlt => hx.block c hlt (hD c hc hlt)) hD' f xs hel) hwd (hk.move (fun c hc hlt => hx.block c hlt (hD c hc hlt)) hD')
  · refine RowsOK.move hx hD hD' (fun u hu c hc e => ?_) hrest
    rcases e with e | e
    · exact ap3 u hu c e hc
    · exact ap1 u (by simp [hu]) g rfl (by rw [hc, e])
  · simp only [List.pairwise_cons]
    refine ⟨?_, ?_, ?_, ap4⟩
    · intro u hu c hc
      simp only [List.mem_cons] at hu
      rcases hu with rfl | rfl | hu
      · exact ap1 _ (by simp) c hc
      · intro e
        rcases hn c e with e | e
        · exact ap1 v (by simp) c hc e
        · simp [Value.ownBlock] at hc; omega
      · exact ap1 u (by simp [hu]) c hc
    · intro u hu c hc
      simp only [List.mem_cons] at hu
      rcases hu with rfl | hu
      · intro e
        rcases hn c e with e | e
        · exact ap2 v (by simp) c hc e
        · have := (hb c hc).2; omega
      · exact ap2 u (by simp [hu]) c hc
    · intro u hu c hc e
      rcases hn c hc with hc | hc
      · exact ap3 u hu c hc e
      · have := (hlt u hu c e).2; omega
  · intro x hx'
    simp only [List.mem_cons] at hx'
    rcases hx' with rfl | rfl | rfl | hx'
    · exact abr _ (by simp)
    · exact abr _ (by simp)
    · intro e
      rcases hn br e with e | e
      · exact hvb e
      · have := h.blk.lt; omega
    · exact abr x (by simp [hx'])

theorem owns_slice {w : World} {base e size n : Nat} {v : Value} {xs : List Value} (h : w.ownsRow base e size v n xs) : ∃ a cap, v = .slice a n cap := by
  rcases h.2 with ⟨hv, h0⟩ | ⟨g, cap, cur, hv, _⟩
  · exact ⟨none, 0, by rw [h0]; exact hv⟩
  · exact ⟨_, cap, hv⟩

theorem owns_form {w : World} {base e size n : Nat} {v : Value} {xs : List Value} (h : w.ownsRow base e size v n xs) (hn : 0 < n) : ∃ g cap, v = .slice (some ⟨g, 0, none⟩) n cap := by
  rcases h.2 with ⟨_, h0⟩ | ⟨g, cap, cur, hv, _⟩
  · omega
  · exact ⟨g, cap, hv⟩

end Go.Proofs.YthiaikbdghmnbaaDoor
