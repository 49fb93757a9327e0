/- Append onto a slice that the call owns: what it leaves, and that the new array is the old one or a new block. -/
import Derived.Test.YthiaikbdghmnbaaDoorBase
import Derived.Laws.AppendOwnNone
namespace Go.Proofs.YthiaikbdghmnbaaDoor
open Go.RowKit

/-- The element type's row of the table. -/
def Elt (P : Program) (t e size bytes : Nat) : Prop :=
  ∃ i z, P.underlying t = some (.slice e) ∧ P.info? e = some i ∧ i.zero = some z ∧ i.size = size ∧ i.bytes = bytes ∧ z.cells.size = size ∧ 0 < size

/-- The world behind an append onto v: new blocks, and writes to v's own block; the new slice lies there, or in a new block. -/
structure Grew (v v' : Value) (w w' : World) : Prop where
  by_ : w.grownBy w' v.ownBlock
  own : ∀ g, v'.ownBlock = some g → v.ownBlock = some g ∨ w.heap.size ≤ g

theorem run_append_own2 {P : Program} (w : World) (base t ty e size bytes : Nat) (ht : Elt P t e size bytes)
    (v : Value) (n : Nat) (xs : List Value) (hown : w.ownsRow base e size v n xs)
    (a : Addr) (m c : Nat) (news : List Value) (hl : news.length = m * size) (hnews : ∀ j u, news[j]? = some u → w.cell? (a.add j) = some u) (h1 : ∀ u ∈ news, u.oneCell' = true)
    (h63 : n + m ≤ maxLen) (hbytes : (n + m) * bytes ≤ 140737488355328) (hbase : base ≤ w.heap.size) :
    ∃ v' w', (Builtin.append_ #[t, t] ty #[v, .slice (some a) m c]).run P w = .ok v' w' ∧ w'.ownsRow base e size v' (n + m) (xs ++ news) ∧ Grew v v' w w' := by
  obtain ⟨i, z, ht, hi, hz, hsize, hby, hzs, hsz⟩ := ht
  obtain ⟨v', w', hr, h2, h3, h4⟩ := run_append_own (P := P) w base t ty e i z size bytes ht hi hz hsize hby hzs hsz v n xs hown a m c news hl hnews h1 h63 hbytes hbase
  refine ⟨v', w', hr, h2, h3, fun g hg => ?_⟩
  have hsmall : n + m ≤ 9223372036854775807 := by simp only [maxLen] at h63; omega
  subst hsize
  rcases hown.2 with ⟨rfl, rfl⟩ | ⟨g0, cap, cur, rfl, hbg, hgg, hnc, hcm, hcs, htake⟩
  · by_cases hm : m = 0
    · have := h4.2 ⟨rfl, hm⟩; subst this; simp [Value.ownBlock] at hg
    · have hr' := run_append_nil (P := P) w t ty e i z ht hi hz a m c news hl hnews (by omega) (by omega) (by rw [hby]; have hb := hbytes; simp only [Nat.zero_add] at hb; omega)
      rw [hr] at hr'
      cases hr'
      simp [Value.ownBlock] at hg
      right; omega
  · by_cases hroom : n + m ≤ cap
    · have hfit : n * i.size + news.length ≤ cur.size := by rw [hl, hcs, ← Nat.add_mul]; exact Nat.mul_le_mul_right _ hroom
      have hr' := run_append_room (P := P) w t ty e i ht hi g0 n cap cur hgg a m c news hl hnews h1 hroom hfit
      rw [hr] at hr'
      cases hr'
      exact .inl hg
    · have holds : ∀ j u, xs[j]? = some u → w.cell? ((⟨g0, 0, none⟩ : Addr).add j) = some u := hown.cells (g := g0) rfl
      have hr' := run_append_grow (P := P) w t ty e i z ht hi hz ⟨g0, 0, none⟩ n cap xs hown.1 holds a m c news hl hnews (by omega) (by omega) (by rw [hby]; exact growslice_fits (by omega) hbytes)
      rw [hr] at hr'
      cases hr'
      simp [Value.ownBlock] at hg
      right; omega

theorem wp_append_own2 {P : Program} {w : World} {o : Oper} {a : Act} {K : Act → World → Prop} {Q : Exit → Act → World → Prop} (s x : Operand) (t : TypeId)
    (ho : o.op = .call { callee := .builtin .append, args := #[s, x], argTypes := #[t, t] })
    (base e size bytes : Nat) (ht : Elt P t e size bytes)
    (v : Value) (n : Nat) (xs : List Value) (hs : a.eval s = v) (hown : w.ownsRow base e size v n xs)
    (ad : Addr) (m c : Nat) (news : List Value) (hx : a.eval x = .slice (some ad) m c) (hl : news.length = m * size) (hnews : ∀ j u, news[j]? = some u → w.cell? (ad.add j) = some u) (h1 : ∀ u ∈ news, u.oneCell' = true)
    (h63 : n + m ≤ maxLen) (hbytes : (n + m) * bytes ≤ 140737488355328) (hbase : base ≤ w.heap.size)
    (h : ∀ v' w', w'.ownsRow base e size v' (n + m) (xs ++ news) → Grew v v' w w' → K (a.put o.dst v') w') : o.wp P a w K Q := by
  obtain ⟨v', w', hr, h2, h3⟩ := run_append_own2 (P := P) w base t o.type e size bytes ht v n xs hown ad m c news hl hnews h1 h63 hbytes hbase
  unfold Oper.wp execOp
  simp only [ho, resolve, invoke, builtin, Sem.run_bind, Sem.run_pure, Result.andThen_ok, List.map_toArray, List.map_cons, List.map_nil, hs, hx, hr]
  exact h v' w' h2 h3

theorem wpList_append_own2 {P : Program} {w : World} {ops : Array Oper} {rest : List Oper} {o : Oper} {a : Act} {Q : Exit → Act → World → Prop} (hgd : o.guard = none) (s x : Operand) (t : TypeId)
    (ho : o.op = .call { callee := .builtin .append, args := #[s, x], argTypes := #[t, t] })
    (base e size bytes : Nat) (ht : Elt P t e size bytes)
    (v : Value) (n : Nat) (xs : List Value) (hs : a.eval s = v) (hown : w.ownsRow base e size v n xs)
    (ad : Addr) (m c : Nat) (news : List Value) (hx : a.eval x = .slice (some ad) m c) (hl : news.length = m * size) (hnews : ∀ j u, news[j]? = some u → w.cell? (ad.add j) = some u) (h1 : ∀ u ∈ news, u.oneCell' = true)
    (h63 : n + m ≤ maxLen) (hbytes : (n + m) * bytes ≤ 140737488355328) (hbase : base ≤ w.heap.size)
    (h : ∀ v' w', w'.ownsRow base e size v' (n + m) (xs ++ news) → Grew v v' w w' → wpList P ops Q rest (a.put o.dst v') w') : wpList P ops Q (o :: rest) a w :=
  wpList_plain hgd fun _ hK => wp_append_own2 s x t ho base e size bytes ht v n xs hs hown ad m c news hx hl hnews h1 h63 hbytes hbase fun v' w' h2 h3 => hK _ _ (h v' w' h2 h3)

theorem new_cells (w : World) (cs : List Value) (t : TypeId) : ∀ j u, cs[j]? = some u → (w.alloc (.cells cs.toArray t)).cell? ((⟨w.heap.size, 0, none⟩ : Addr).add j) = some u := by
  intro j u h
  have hadd : (⟨w.heap.size, 0, none⟩ : Addr).add j = ⟨w.heap.size, j, none⟩ := by unfold Addr.add; split <;> simp_all
  rw [hadd, (Blk.new w cs.toArray t).cell j]
  simpa using h

theorem Grew.ofAlloc {v v' : Value} {w w' : World} {o : Obj} (h : Grew v v' (w.alloc o) w') : Grew v v' w w' := by
  have h1 := h.by_
  refine ⟨⟨h1.os, h1.tape, h1.output, ?_, fun k hk hn => ?_⟩, fun g hg => ?_⟩
  · have := h1.size; simp at this; omega
  · rw [h1.block k (by simp; omega) hn, Below.heap_alloc _ _ _ hk]
  · rcases h.own g hg with h | h
    · exact .inl h
    · right; simp at h; omega

/-- 'append(s, x)' of one element, which was laid in a block of its own just before. -/
theorem wpList_append_one {P : Program} {w : World} {ops : Array Oper} {rest : List Oper} {o : Oper} {a : Act} {Q : Exit → Act → World → Prop} (hgd : o.guard = none) (s x : Operand) (t : TypeId)
    (ho : o.op = .call { callee := .builtin .append, args := #[s, x], argTypes := #[t, t] })
    (base e size bytes : Nat) (ht : Elt P t e size bytes)
    (v : Value) (n : Nat) (xs : List Value) (hs : a.eval s = v) (hown : w.ownsRow base e size v n xs)
    (cells : List Value) (hx : a.eval x = .slice (some ⟨w.heap.size, 0, none⟩) 1 1) (hl : cells.length = size) (h1 : cells.all (·.oneCell') = true)
    (h63 : n + 1 ≤ maxLen) (hbytes : (n + 1) * bytes ≤ 140737488355328) (hbase : base ≤ w.heap.size)
    (h : ∀ v' w', w'.ownsRow base e size v' (n + 1) (xs ++ cells) → Grew v v' w w' → wpList P ops Q rest (a.put o.dst v') w') : wpList P ops Q (o :: rest) a (w.alloc (.cells cells.toArray e)) :=
  wpList_append_own2 hgd s x t ho base e size bytes ht v n xs hs (hown.alloc _) ⟨w.heap.size, 0, none⟩ 1 1 cells hx (by simpa using hl) (new_cells w cells e)
    (fun u hu => List.all_eq_true.1 h1 u hu) h63 hbytes (by simp; omega) fun v' w' h2 h3 => h v' w' h2 h3.ofAlloc

/-- 'append(s, y...)' of a slice that is held. -/
theorem wpList_append_held {P : Program} {w : World} {ops : Array Oper} {rest : List Oper} {o : Oper} {a : Act} {Q : Exit → Act → World → Prop} (hgd : o.guard = none ∨ Region.wanted o (yielded ops a.tmps) = true) (s x : Operand) (t : TypeId)
    (ho : o.op = .call { callee := .builtin .append, args := #[s, x], argTypes := #[t, t] })
    (base e size bytes : Nat) (ht : Elt P t e size bytes)
    (v : Value) (n : Nat) (xs : List Value) (hs : a.eval s = v) (hown : w.ownsRow base e size v n xs)
    (D : Nat → Prop) (y : Value) (m : Nat) (ys : List Value) (hx : a.eval x = y) (hy : Held D w y m ys) (hl : ys.length = m * size) (h1 : ∀ u ∈ ys, u.oneCell' = true)
    (h63 : n + m ≤ maxLen) (hbytes : (n + m) * bytes ≤ 140737488355328) (hbase : base ≤ w.heap.size)
    (h : ∀ v' w', w'.ownsRow base e size v' (n + m) (xs ++ ys) → Grew v v' w w' → wpList P ops Q rest (a.put o.dst v') w') : wpList P ops Q (o :: rest) a w := by
  have hw : Region.wanted o (yielded ops a.tmps) = true := by
    rcases hgd with h | h
    · simp [Region.wanted, h]
    · exact h
  refine wpList_step fun K hK => ?_
  rw [if_pos hw]
  obtain ⟨ao, cap, rfl, hc, hm, hz, hy⟩ := hy
  cases ao with
  | none =>
    obtain rfl := hz rfl
    obtain rfl : m = 0 := by omega
    obtain rfl : ys = [] := List.eq_nil_of_length_eq_zero (by simpa using hl)
    obtain ⟨i, z, ht, hi, hz, hsize, hby, hzs, hsz⟩ := ht
    have hrun := run_append_owned_none (P := P) (w := w) base t o.type e i size ht hi v n xs hown
    have hh := h v w (by simpa using hown) ⟨⟨rfl, rfl, rfl, Nat.le_refl _, fun _ _ _ => rfl⟩, fun g hg => .inl hg⟩
    unfold Oper.wp
    simp [execOp, ho, resolve, invoke, builtin, hs, hx, hrun, Result.andThen]
    exact hK _ _ hh
  | some ad =>
    refine wp_append_own2 s x t ho base e size bytes ht v n xs hs hown ad m cap ys hx hl ?_ h1 h63 hbytes hbase fun v' w' h2 h3 => hK _ _ (h v' w' h2 h3)
    intro j u hu
    rcases hy with rfl | ⟨b, off, he, _, hcell⟩
    · simp at hu
    · cases he
      have hadd : (⟨b, off, none⟩ : Addr).add j = ⟨b, off + j, none⟩ := by unfold Addr.add; split <;> simp_all
      rw [hadd]; exact hcell j u hu

theorem Elems.oneCell {D : Nat → Prop} {w : World} : ∀ {f : F} {xs : List Value}, Elems D w f xs → ∀ u ∈ xs, u.oneCell' = true
  | .nil, _, h, u, hu => by rw [show _ = [] from h] at hu; cases hu
  | .cons _ _ _ _ rest, _, h, u, hu => by
    obtain ⟨kv, ys, xs', rfl, _, _, ⟨a, cap, rfl, _⟩, h3⟩ := h
    simp only [List.mem_cons] at hu
    rcases hu with rfl | rfl | rfl | rfl | hu
    · rfl
    · rfl
    · rfl
    · rfl
    · exact Elems.oneCell h3 u hu

theorem Grew.ext {M : Nat → Prop} {v v' : Value} {w0 w w' : World} (h : Ext M w0 w) (hg : Grew v v' w w') (hm : ∀ k, v.ownBlock = some k → k < w0.heap.size → M k) : Ext M w0 w' := h.grown hg.by_ hm

theorem Elems.grew {D : Nat → Prop} {w w' : World} {v v' : Value} {f : F} {xs : List Value} (h : Elems (fun b => D b ∧ v.ownBlock ≠ some b) w f xs) (hg : Grew v v' w w') : Elems (fun b => D b ∧ v'.ownBlock ≠ some b) w' f xs :=
  Elems.move (fun b hb hlt => hg.by_.block b hlt (fun e => hb.2 e.symm)) (fun b hb hlt => ⟨hb.1, fun e => by
    rcases hg.own b e with h | h
    · exact hb.2 h
    · omega⟩) f xs h
theorem Held.grew {D : Nat → Prop} {w w' : World} {v v' x : Value} {n : Nat} {xs : List Value} (h : Held (fun b => D b ∧ v.ownBlock ≠ some b) w x n xs) (hg : Grew v v' w w') : Held (fun b => D b ∧ v'.ownBlock ≠ some b) w' x n xs :=
  h.move (fun b hb hlt => hg.by_.block b hlt (fun e => hb.2 e.symm)) (fun b hb hlt => ⟨hb.1, fun e => by
    rcases hg.own b e with h | h
    · exact hb.2 h
    · omega⟩)

/-- One tree more at the end. -/
theorem Elems.snoc {D : Nat → Prop} {w : World} {f k : F} {xs : List Value} {wd : ByteArray} {r : Bool} {p : Int} {kv : Value} (h : Elems D w f xs) (hs : wd.size ≤ maxLen) (hk : Sl D w kv k) :
    Elems D w (f.app (.cons wd r p k .nil)) (xs ++ [.string wd, kv, .bool r, .int .i64 p]) := by
  obtain ⟨ys, h1, h2⟩ := hk
  exact h.app ⟨kv, ys, [], rfl, hs, h1, h2, rfl⟩
theorem Sl.grew {D : Nat → Prop} {w w' : World} {v v' x : Value} {f : F} (h : Sl (fun b => D b ∧ v.ownBlock ≠ some b) w x f) (hg : Grew v v' w w') : Sl (fun b => D b ∧ v'.ownBlock ≠ some b) w' x f := by
  obtain ⟨ys, h1, h2⟩ := h
  exact ⟨ys, h1.grew hg, h2.grew hg⟩

end Go.Proofs.YthiaikbdghmnbaaDoor
