/- Texts put together by wip/shake.py: Base, Mem, Read, PBase, PData, LexSpec, PSpec: the walks and the laws that the claim's last theorem rests on. -/
import Derived.WalkKit
import Derived.WalkSpells
import Derived.WalkLawsBesides
import Derived.Deep.QuietTactic
import Derived.Lib.Hide
import Derived.Lib.Bytealg
import Derived.Laws.AppendOwnNone
namespace Go.Proofs.YtmcinpeplkkpfaaGreatDoor
open Go.RowKit
structure Ext (M : Nat → Prop) (w w' : World) : Prop where
  os : w'.os = w.os
  tape : w'.tape = w.tape
  output : w'.output = w.output
  size : w.heap.size ≤ w'.heap.size
  block : ∀ k, k < w.heap.size → ¬ M k → w'.heap[k]? = w.heap[k]?

namespace Ext
variable {M M' : Nat → Prop} {a b c w w' : World}
theorem refl (M : Nat → Prop) (w : World) : Ext M w w := ⟨rfl, rfl, rfl, Nat.le_refl _, fun _ _ _ => rfl⟩

theorem trans (h : Ext M a b) (k : Ext M' b c) (hm : ∀ i, i < a.heap.size → M' i → M i) : Ext M a c :=
  ⟨k.os.trans h.os, k.tape.trans h.tape, k.output.trans h.output, Nat.le_trans h.size k.size,
    fun i hi hn => (k.block i (Nat.lt_of_lt_of_le hi h.size) (fun hM => hn (hm i hi hM))).trans (h.block i hi hn)⟩

theorem trans' (h : Ext M a b) (k : Ext M b c) : Ext M a c := h.trans k fun _ _ h => h

theorem mono (h : Ext M a b) (hm : ∀ i, i < a.heap.size → M i → M' i) : Ext M' a b :=
  ⟨h.os, h.tape, h.output, h.size, fun i hi hn => h.block i hi fun hM => hn (hm i hi hM)⟩

theorem drew (h : Ext M a w) : Ext M a w.drew := ⟨h.os, h.tape, h.output, h.size, h.block⟩

theorem drewN (h : Ext M a w) (n : Nat) : Ext M a (w.drewN n) := ⟨h.os, h.tape, h.output, h.size, h.block⟩

theorem alloc (h : Ext M a w) (o : Obj) : Ext M a (w.alloc o) :=
  ⟨h.os, h.tape, h.output, by have := h.size; simp; omega, fun k hk hn => by
    rw [Below.heap_alloc _ _ _ (Nat.lt_of_lt_of_le hk h.size)]; exact h.block k hk hn⟩

theorem setCell (h : Ext M a w) {p : Addr} (hp : p.block < a.heap.size → M p.block) (u : Value) : Ext M a (w.setCell p u) :=
  ⟨h.os, h.tape, h.output, by have := h.size; simp [World.setCell]; omega, fun k hk hn => by
    rw [Below.heap_setCell _ _ _ _ (fun e => hn (by subst e; exact hp hk))]; exact h.block k hk hn⟩

theorem grown (h : Ext M a w) {row : Option Nat} (hg : w.grownBy w' row) (hr : ∀ k, row = some k → k < a.heap.size → M k) : Ext M a w' :=
  ⟨hg.os.trans h.os, hg.tape.trans h.tape, hg.output.trans h.output, Nat.le_trans h.size hg.size, fun k hk hn =>
    (hg.block k (Nat.lt_of_lt_of_le hk h.size) (fun e => hn (hr k e.symm hk))).trans (h.block k hk hn)⟩

theorem below (h : Ext (fun _ => False) a b) : Below a.heap.size a b := ⟨h.os, h.tape, h.output, h.size, fun k hk => h.block k hk id⟩

theorem ofBelow (h : Below a.heap.size a b) : Ext M a b := ⟨h.os, h.tape, h.output, h.size, fun k hk _ => h.block k hk⟩

theorem cell (h : Ext M a b) {p : Addr} (hp : p.block < a.heap.size) (hn : ¬ M p.block) : b.cell? p = a.cell? p := World.cell?_of_block (w := a) (h.block p.block hp hn)

theorem cellSome (h : Ext M a b) {p : Addr} {v : Value} (hv : a.cell? p = some v) (hn : ¬ M p.block) : b.cell? p = some v :=
  (h.cell (World.block_lt_of_cell? a p hv) hn).trans hv

end Ext
theorem quiet_eq {P : Program} {f : FuncId} {args : Array Value} {w : World} {n : Nat} {v : Value}
    (h : Calls P f args (w.drewN n) fun e w' => e = .returned v ∧ w.drewN n = w') : Calls P f args (w.drewN n) fun e w'' => e = .returned v ∧ ∃ m, w'' = w.drewN m :=
  h.mono fun _ _ ⟨he, hm⟩ => ⟨he, n, hm.symm⟩

theorem ext_drewN (w : World) (n : Nat) (M : Nat → Prop) : Ext M w (w.drewN n) := (Ext.refl M w).drewN n

def Blk (w : World) (b : Nat) (cs : Array Value) (t : TypeId) : Prop := w.heap[b]? = some (.cells cs t (0, 0))

namespace Blk
variable {w w' : World} {b : Nat} {cs : Array Value} {t : TypeId}
theorem lt (h : Blk w b cs t) : b < w.heap.size := (Array.getElem?_eq_some_iff.1 h).1

theorem cell (h : Blk w b cs t) (i : Nat) : w.cell? ⟨b, i, none⟩ = cs[i]? := by
  have h' : w.heap[b]? = some (.cells cs t (0, 0)) := h
  simp [World.cell?, h']

theorem frozen (h : Blk w b cs t) (i : Nat) : w.frozen? ⟨b, i, none⟩ = false := by
  have h' : w.heap[b]? = some (.cells cs t (0, 0)) := h
  simp only [World.frozen?, h']; simp

theorem ext {M : Nat → Prop} (h : Blk w b cs t) (he : Ext M w w') (hm : ¬ M b) : Blk w' b cs t := (he.block b h.lt hm).trans h

theorem set (h : Blk w b cs t) (i : Nat) (u : Value) : Blk (w.setCell ⟨b, i, none⟩ u) b (cs.setIfInBounds i u) t := by
  have h' : w.heap[b]? = some (.cells cs t (0, 0)) := h
  unfold Blk World.setCell
  simp only [Array.getElem?_modify, if_true, h', Option.map_some, Option.isSome_none, Bool.false_eq_true, if_false]

theorem setOther (h : Blk w b cs t) (p : Addr) (hp : p.block ≠ b) (u : Value) : Blk (w.setCell p u) b cs t := by
  unfold Blk; rw [Below.heap_setCell _ _ _ _ (Ne.symm hp)]; exact h

theorem alloc (h : Blk w b cs t) (o : Obj) : Blk (w.alloc o) b cs t := by
  unfold Blk; rw [Below.heap_alloc _ _ _ h.lt]; exact h

theorem new (w : World) (cs : Array Value) (t : TypeId) : Blk (w.alloc (.cells cs t)) w.heap.size cs t := heap_alloc_new w _

theorem drewN (h : Blk w b cs t) (n : Nat) : Blk (w.drewN n) b cs t := h

theorem drew (h : Blk w b cs t) : Blk w.drew b cs t := h

end Blk
inductive F where
  | nil
  | cons (word : ByteArray) (row : Bool) (pos : Int) (kids rest : F)

namespace F
def len : F → Nat | .nil => 0 | .cons _ _ _ _ r => r.len + 1

def app : F → F → F | .nil, g => g | .cons w r p k t, g => .cons w r p k (t.app g)

theorem app_nil : ∀ f : F, f.app .nil = f | .nil => rfl | .cons _ _ _ _ t => by simp [app, app_nil t]

theorem app_assoc : ∀ f g h : F, (f.app g).app h = f.app (g.app h) | .nil, _, _ => rfl | .cons _ _ _ _ t, g, h => by simp [app, app_assoc t]

theorem len_app : ∀ f g : F, (f.app g).len = f.len + g.len | .nil, g => by simp [app, len] | .cons _ _ _ _ t, g => by simp [app, len, len_app t]; omega

end F
def Held (D : Nat → Prop) (w : World) (v : Value) (n : Nat) (ys : List Value) : Prop :=
  ∃ a cap, v = .slice a n cap ∧ n ≤ cap ∧ cap ≤ maxLen ∧ (a = none → cap = 0) ∧ (ys = [] ∨ ∃ b off, a = some ⟨b, off, none⟩ ∧ D b ∧ ∀ i x, ys[i]? = some x → w.cell? ⟨b, off + i, none⟩ = some x)

def Elems (D : Nat → Prop) (w : World) : F → List Value → Prop
  | .nil, xs => xs = []
  | .cons wd r p k rest, xs => ∃ kv ys xs', xs = .string wd :: kv :: .bool r :: .int .i64 p :: xs' ∧ wd.size ≤ maxLen ∧ Elems D w k ys ∧ Held D w kv k.len ys ∧ Elems D w rest xs'

def Sl (D : Nat → Prop) (w : World) (v : Value) (f : F) : Prop := ∃ ys, Elems D w f ys ∧ Held D w v f.len ys

theorem Held.move {D D' : Nat → Prop} {w w' : World} {v : Value} {n : Nat} {ys : List Value} (h : Held D w v n ys)
    (hb : ∀ b, D b → b < w.heap.size → w'.heap[b]? = w.heap[b]?) (hd : ∀ b, D b → b < w.heap.size → D' b) : Held D' w' v n ys := by
  obtain ⟨a, cap, rfl, hc, hm, hz, h⟩ := h
  refine ⟨a, cap, rfl, hc, hm, hz, ?_⟩
  rcases h with h | ⟨b, off, rfl, hD, hcell⟩
  · exact .inl h
  · cases ys with
    | nil => exact .inl rfl
    | cons y ys =>
      have hlt : b < w.heap.size := World.block_lt_of_cell? w ⟨b, off + 0, none⟩ (hcell 0 y rfl)
      exact .inr ⟨b, off, rfl, hd b hD hlt, fun i x hi => (World.cell?_of_block (a := ⟨b, off + i, none⟩) (hb b hD hlt)).trans (hcell i x hi)⟩

theorem Elems.move {D D' : Nat → Prop} {w w' : World} (hb : ∀ b, D b → b < w.heap.size → w'.heap[b]? = w.heap[b]?) (hd : ∀ b, D b → b < w.heap.size → D' b) :
    ∀ (f : F) (xs : List Value), Elems D w f xs → Elems D' w' f xs
  | .nil, _, h => h
  | .cons _ _ _ k rest, _, h => by
    obtain ⟨kv, ys, xs', e, hs, h1, h2, h3⟩ := h
    exact ⟨kv, ys, xs', e, hs, Elems.move hb hd k ys h1, h2.move hb hd, Elems.move hb hd rest xs' h3⟩

theorem Sl.move {D D' : Nat → Prop} {w w' : World} {v : Value} {f : F} (h : Sl D w v f) (hb : ∀ b, D b → b < w.heap.size → w'.heap[b]? = w.heap[b]?) (hd : ∀ b, D b → b < w.heap.size → D' b) : Sl D' w' v f := by
  obtain ⟨ys, h1, h2⟩ := h
  exact ⟨ys, Elems.move hb hd f ys h1, h2.move hb hd⟩

theorem Sl.ext {D M : Nat → Prop} {w w' : World} {v : Value} {f : F} (h : Sl D w v f) (he : Ext M w w') (hm : ∀ b, D b → ¬ M b) : Sl D w' v f :=
  h.move (fun b hD hlt => he.block b hlt (hm b hD)) fun _ h _ => h

theorem Elems.ext {D M : Nat → Prop} {w w' : World} {f : F} {xs : List Value} (h : Elems D w f xs) (he : Ext M w w') (hm : ∀ b, D b → ¬ M b) : Elems D w' f xs :=
  Elems.move (fun b hD hlt => he.block b hlt (hm b hD)) (fun _ h _ => h) f xs h

theorem Sl.mono {D D' : Nat → Prop} {w : World} {v : Value} {f : F} (h : Sl D w v f) (hd : ∀ b, D b → b < w.heap.size → D' b) : Sl D' w v f := h.move (fun _ _ _ => rfl) hd

theorem Elems.mono {D D' : Nat → Prop} {w : World} {f : F} {xs : List Value} (h : Elems D w f xs) (hd : ∀ b, D b → b < w.heap.size → D' b) : Elems D' w f xs := Elems.move (fun _ _ _ => rfl) hd f xs h

theorem Elems.length {D : Nat → Prop} {w : World} : ∀ {f : F} {xs : List Value}, Elems D w f xs → xs.length = f.len * 4
  | .nil, _, h => by rw [show _ = [] from h]; rfl
  | .cons _ _ _ _ rest, _, h => by
    obtain ⟨kv, ys, xs', rfl, _, _, _, h3⟩ := h
    simp [Elems.length h3, F.len]; omega

theorem Elems.app {D : Nat → Prop} {w : World} : ∀ {f g : F} {xs ys : List Value}, Elems D w f xs → Elems D w g ys → Elems D w (f.app g) (xs ++ ys)
  | .nil, _, _, _, h, h' => by rw [show _ = [] from h]; exact h'
  | .cons _ _ _ _ rest, _, _, _, h, h' => by
    obtain ⟨kv, zs, xs', rfl, hs, h1, h2, h3⟩ := h
    exact ⟨kv, zs, xs' ++ _, rfl, hs, h1, h2, Elems.app h3 h'⟩

theorem Sl.nil (D : Nat → Prop) (w : World) : Sl D w (.slice none 0 0) .nil := ⟨[], rfl, none, 0, rfl, Nat.le_refl _, Nat.zero_le _, fun _ => rfl, .inl rfl⟩

theorem held_of_owns {w : World} {base e size : Nat} {v : Value} {n : Nat} {xs : List Value} (h : w.ownsRow base e size v n xs) : Held (fun b => v.ownBlock = some b ∧ base ≤ b) w v n xs := by
  have hc := fun g => h.cells (g := g)
  rcases h with ⟨hl, ⟨rfl, rfl⟩ | ⟨g, cap, cur, rfl, hb, hg, hn, hm, hs, ht⟩⟩
  · exact ⟨none, 0, rfl, Nat.le_refl _, Nat.zero_le _, fun _ => rfl, .inl (List.eq_nil_of_length_eq_zero (by simpa using hl))⟩
  · refine ⟨_, cap, rfl, hn, hm, (fun h => by cases h), .inr ⟨g, 0, rfl, ⟨rfl, hb⟩, fun i x hi => ?_⟩⟩
    have := hc g rfl i x hi
    rw [← this]; congr 1; unfold Addr.add; split <;> simp_all

theorem sl_of_owns {D : Nat → Prop} {w : World} {base e : Nat} {v : Value} {f : F} {xs : List Value} (h : w.ownsRow base e 4 v f.len xs) (he : Elems D w f xs) :
    Sl (fun b => D b ∨ (v.ownBlock = some b ∧ base ≤ b)) w v f :=
  ⟨xs, he.mono (fun _ h _ => .inl h), (held_of_owns h).move (fun _ _ _ => rfl) fun _ h _ => .inr h⟩

theorem sl_owned {w : World} {base e : Nat} {v : Value} {f : F} {xs : List Value} (h : w.ownsRow base e 4 v f.len xs) (he : Elems (fun b => base ≤ b ∧ v.ownBlock ≠ some b) w f xs) :
    Sl (fun b => base ≤ b) w v f :=
  (sl_of_owns h he).mono fun _ hb _ => hb.elim (fun h => h.1) (fun h => h.2)

theorem Sl.drewN {D : Nat → Prop} {w : World} {v : Value} {f : F} (h : Sl D w v f) (n : Nat) : Sl D (w.drewN n) v f := h.ext (ext_drewN w n (fun _ => False)) (fun _ _ h => h)

theorem Elems.drewN {D : Nat → Prop} {w : World} {f : F} {xs : List Value} (h : Elems D w f xs) (n : Nat) : Elems D (w.drewN n) f xs := h.ext (ext_drewN w n (fun _ => False)) (fun _ _ h => h)

theorem owns_ext {M : Nat → Prop} {w w' : World} {base e size : Nat} {v : Value} {n : Nat} {xs : List Value} (h : w.ownsRow base e size v n xs) (he : Ext M w w') (hm : ∀ b, v.ownBlock = some b → base ≤ b → ¬ M b) : w'.ownsRow base e size v n xs := by
  refine ⟨h.1, ?_⟩
  rcases h.2 with hn | ⟨g, cap, cur, rfl, hb, hgg, rest⟩
  · exact .inl hn
  · exact .inr ⟨g, cap, cur, rfl, hb, (he.block g (Array.getElem?_eq_some_iff.1 hgg).1 (hm g rfl hb)).trans hgg, rest⟩

theorem Sl.shape {D : Nat → Prop} {w : World} {v : Value} {f : F} (h : Sl D w v f) : ∃ a cap, v = .slice a f.len cap ∧ f.len ≤ cap ∧ cap ≤ maxLen := by
  obtain ⟨ys, _, a, cap, h1, h2, h3, _⟩ := h; exact ⟨a, cap, h1, h2, h3⟩

end Go.Proofs.YtmcinpeplkkpfaaGreatDoor

namespace Go.Proofs.YtmcinpeplkkpfaaGreatDoor
open Go.RowKit
def Elt (P : Program) (t e size bytes : Nat) : Prop :=
  ∃ i z, P.underlying t = some (.slice e) ∧ P.info? e = some i ∧ i.zero = some z ∧ i.size = size ∧ i.bytes = bytes ∧ z.cells.size = size ∧ 0 < size

structure Grew (v v' : Value) (w w' : World) : Prop where
  by_ : w.grownBy w' v.ownBlock
  own : ∀ g, v'.ownBlock = some g → v.ownBlock = some g ∨ w.heap.size ≤ g

theorem run_append_own2 {P : Program} (w : World) (base t ty e size bytes : Nat) (ht : Elt P t e size bytes)
    (v : Value) (n : Nat) (xs : List Value) (hown : w.ownsRow base e size v n xs)
    (a : Addr) (m c : Nat) (news : List Value) (hl : news.length = m * size) (hnews : ∀ j u, news[j]? = some u → w.cell? (a.add j) = some u) (h1 : ∀ u ∈ news, u.oneCell' = true)
    (h63 : n + m ≤ maxLen) (hbytes : (n + m) * bytes ≤ 140737488355328) (hbase : base ≤ w.heap.size) :
    ∃ v' w', (Builtin.append_ #[t, t] ty #[v, .slice (some a) m c]).run P w = .ok v' w' ∧ w'.ownsRow base e size v' (n + m) (xs ++ news) ∧ Grew v v' w w' := by
  obtain ⟨i, z, ht, hi, hz, hsize, hby, hzs, hsz⟩ := ht
  obtain ⟨v', w', hr, h2, h3, h4⟩ := run_append_own (P := P) w base t ty e i z size bytes ht hi hz hsize hby hzs hsz v n xs hown a m c news hl hnews h1 h63 hbytes hbase
  refine ⟨v', w', hr, h2, h3, fun g hg => ?_⟩
  have hsmall : n + m ≤ 9223372036854775807 := by simp only [maxLen] at h63; omega
  subst hsize
  rcases hown.2 with ⟨rfl, rfl⟩ | ⟨g0, cap, cur, rfl, hbg, hgg, hnc, hcm, hcs, htake⟩
  · by_cases hm : m = 0
    · have := h4.2 ⟨rfl, hm⟩; subst this; simp [Value.ownBlock] at hg
    · have hr' := run_append_nil (P := P) w t ty e i z ht hi hz a m c news hl hnews (by omega) (by omega) (by rw [hby]; have hb := hbytes; simp only [Nat.zero_add] at hb; omega)
      rw [hr] at hr'
      cases hr'
      simp [Value.ownBlock] at hg
      right; omega
  · by_cases hroom : n + m ≤ cap
    · have hfit : n * i.size + news.length ≤ cur.size := by rw [hl, hcs, ← Nat.add_mul]; exact Nat.mul_le_mul_right _ hroom
      have hr' := run_append_room (P := P) w t ty e i ht hi g0 n cap cur hgg a m c news hl hnews h1 hroom hfit
      rw [hr] at hr'
      cases hr'
      exact .inl hg
    · have holds : ∀ j u, xs[j]? = some u → w.cell? ((⟨g0, 0, none⟩ : Addr).add j) = some u := hown.cells (g := g0) rfl
      have hr' := run_append_grow (P := P) w t ty e i z ht hi hz ⟨g0, 0, none⟩ n cap xs hown.1 holds a m c news hl hnews (by omega) (by omega) (by rw [hby]; exact growslice_fits (by omega) hbytes)
      rw [hr] at hr'
      cases hr'
      simp [Value.ownBlock] at hg
      right; omega

theorem wp_append_own2 {P : Program} {w : World} {o : Oper} {a : Act} {K : Act → World → Prop} {Q : Exit → Act → World → Prop} (s x : Operand) (t : TypeId)
    (ho : o.op = .call { callee := .builtin .append, args := #[s, x], argTypes := #[t, t] })
    (base e size bytes : Nat) (ht : Elt P t e size bytes)
    (v : Value) (n : Nat) (xs : List Value) (hs : a.eval s = v) (hown : w.ownsRow base e size v n xs)
    (ad : Addr) (m c : Nat) (news : List Value) (hx : a.eval x = .slice (some ad) m c) (hl : news.length = m * size) (hnews : ∀ j u, news[j]? = some u → w.cell? (ad.add j) = some u) (h1 : ∀ u ∈ news, u.oneCell' = true)
    (h63 : n + m ≤ maxLen) (hbytes : (n + m) * bytes ≤ 140737488355328) (hbase : base ≤ w.heap.size)
    (h : ∀ v' w', w'.ownsRow base e size v' (n + m) (xs ++ news) → Grew v v' w w' → K (a.put o.dst v') w') : o.wp P a w K Q := by
  obtain ⟨v', w', hr, h2, h3⟩ := run_append_own2 (P := P) w base t o.type e size bytes ht v n xs hown ad m c news hl hnews h1 h63 hbytes hbase
  unfold Oper.wp execOp
  simp only [ho, resolve, invoke, builtin, Sem.run_bind, Sem.run_pure, Result.andThen_ok, List.map_toArray, List.map_cons, List.map_nil, hs, hx, hr]
  exact h v' w' h2 h3

theorem wpList_append_own2 {P : Program} {w : World} {ops : Array Oper} {rest : List Oper} {o : Oper} {a : Act} {Q : Exit → Act → World → Prop} (hgd : o.guard = none) (s x : Operand) (t : TypeId)
    (ho : o.op = .call { callee := .builtin .append, args := #[s, x], argTypes := #[t, t] })
    (base e size bytes : Nat) (ht : Elt P t e size bytes)
    (v : Value) (n : Nat) (xs : List Value) (hs : a.eval s = v) (hown : w.ownsRow base e size v n xs)
    (ad : Addr) (m c : Nat) (news : List Value) (hx : a.eval x = .slice (some ad) m c) (hl : news.length = m * size) (hnews : ∀ j u, news[j]? = some u → w.cell? (ad.add j) = some u) (h1 : ∀ u ∈ news, u.oneCell' = true)
    (h63 : n + m ≤ maxLen) (hbytes : (n + m) * bytes ≤ 140737488355328) (hbase : base ≤ w.heap.size)
    (h : ∀ v' w', w'.ownsRow base e size v' (n + m) (xs ++ news) → Grew v v' w w' → wpList P ops Q rest (a.put o.dst v') w') : wpList P ops Q (o :: rest) a w :=
  wpList_plain hgd fun _ hK => wp_append_own2 s x t ho base e size bytes ht v n xs hs hown ad m c news hx hl hnews h1 h63 hbytes hbase fun v' w' h2 h3 => hK _ _ (h v' w' h2 h3)

theorem new_cells (w : World) (cs : List Value) (t : TypeId) : ∀ j u, cs[j]? = some u → (w.alloc (.cells cs.toArray t)).cell? ((⟨w.heap.size, 0, none⟩ : Addr).add j) = some u := by
  intro j u h
  have hadd : (⟨w.heap.size, 0, none⟩ : Addr).add j = ⟨w.heap.size, j, none⟩ := by unfold Addr.add; split <;> simp_all
  rw [hadd, (Blk.new w cs.toArray t).cell j]
  simpa using h

theorem Grew.ofAlloc {v v' : Value} {w w' : World} {o : Obj} (h : Grew v v' (w.alloc o) w') : Grew v v' w w' := by
  have h1 := h.by_
  refine ⟨⟨h1.os, h1.tape, h1.output, ?_, fun k hk hn => ?_⟩, fun g hg => ?_⟩
  · have := h1.size; simp at this; omega
  · rw [h1.block k (by simp; omega) hn, Below.heap_alloc _ _ _ hk]
  · rcases h.own g hg with h | h
    · exact .inl h
    · right; simp at h; omega

theorem wpList_append_one {P : Program} {w : World} {ops : Array Oper} {rest : List Oper} {o : Oper} {a : Act} {Q : Exit → Act → World → Prop} (hgd : o.guard = none) (s x : Operand) (t : TypeId)
    (ho : o.op = .call { callee := .builtin .append, args := #[s, x], argTypes := #[t, t] })
    (base e size bytes : Nat) (ht : Elt P t e size bytes)
    (v : Value) (n : Nat) (xs : List Value) (hs : a.eval s = v) (hown : w.ownsRow base e size v n xs)
    (cells : List Value) (hx : a.eval x = .slice (some ⟨w.heap.size, 0, none⟩) 1 1) (hl : cells.length = size) (h1 : cells.all (·.oneCell') = true)
    (h63 : n + 1 ≤ maxLen) (hbytes : (n + 1) * bytes ≤ 140737488355328) (hbase : base ≤ w.heap.size)
    (h : ∀ v' w', w'.ownsRow base e size v' (n + 1) (xs ++ cells) → Grew v v' w w' → wpList P ops Q rest (a.put o.dst v') w') : wpList P ops Q (o :: rest) a (w.alloc (.cells cells.toArray e)) :=
  wpList_append_own2 hgd s x t ho base e size bytes ht v n xs hs (hown.alloc _) ⟨w.heap.size, 0, none⟩ 1 1 cells hx (by simpa using hl) (new_cells w cells e)
    (fun u hu => List.all_eq_true.1 h1 u hu) h63 hbytes (by simp; omega) fun v' w' h2 h3 => h v' w' h2 h3.ofAlloc

theorem Grew.ext {M : Nat → Prop} {v v' : Value} {w0 w w' : World} (h : Ext M w0 w) (hg : Grew v v' w w') (hm : ∀ k, v.ownBlock = some k → k < w0.heap.size → M k) : Ext M w0 w' := h.grown hg.by_ hm

theorem Elems.grew {D : Nat → Prop} {w w' : World} {v v' : Value} {f : F} {xs : List Value} (h : Elems (fun b => D b ∧ v.ownBlock ≠ some b) w f xs) (hg : Grew v v' w w') : Elems (fun b => D b ∧ v'.ownBlock ≠ some b) w' f xs :=
  Elems.move (fun b hb hlt => hg.by_.block b hlt (fun e => hb.2 e.symm)) (fun b hb hlt => ⟨hb.1, fun e => by
    rcases hg.own b e with h | h
    · exact hb.2 h
    · omega⟩) f xs h

theorem Held.grew {D : Nat → Prop} {w w' : World} {v v' x : Value} {n : Nat} {xs : List Value} (h : Held (fun b => D b ∧ v.ownBlock ≠ some b) w x n xs) (hg : Grew v v' w w') : Held (fun b => D b ∧ v'.ownBlock ≠ some b) w' x n xs :=
  h.move (fun b hb hlt => hg.by_.block b hlt (fun e => hb.2 e.symm)) (fun b hb hlt => ⟨hb.1, fun e => by
    rcases hg.own b e with h | h
    · exact hb.2 h
    · omega⟩)

theorem Elems.snoc {D : Nat → Prop} {w : World} {f k : F} {xs : List Value} {wd : ByteArray} {r : Bool} {p : Int} {kv : Value} (h : Elems D w f xs) (hs : wd.size ≤ maxLen) (hk : Sl D w kv k) :
    Elems D w (f.app (.cons wd r p k .nil)) (xs ++ [.string wd, kv, .bool r, .int .i64 p]) := by
  obtain ⟨ys, h1, h2⟩ := hk
  exact h.app ⟨kv, ys, [], rfl, hs, h1, h2, rfl⟩

theorem Sl.grew {D : Nat → Prop} {w w' : World} {v v' x : Value} {f : F} (h : Sl (fun b => D b ∧ v.ownBlock ≠ some b) w x f) (hg : Grew v v' w w') : Sl (fun b => D b ∧ v'.ownBlock ≠ some b) w' x f := by
  obtain ⟨ys, h1, h2⟩ := h
  exact ⟨ys, h1.grew hg, h2.grew hg⟩

end Go.Proofs.YtmcinpeplkkpfaaGreatDoor

namespace Go.Proofs.YtmcinpeplkkpfaaGreatDoor
open Go.RowKit
def RowAt (D : Nat → Prop) (w : World) (b : Nat) : F → Nat → Prop
  | .nil, _ => True
  | .cons wd r p k rest, off => w.cell? ⟨b, off, none⟩ = some (.string wd) ∧ (∃ kv, w.cell? ⟨b, off + 1, none⟩ = some kv ∧ Sl D w kv k) ∧
      w.cell? ⟨b, off + 2, none⟩ = some (.bool r) ∧ w.cell? ⟨b, off + 3, none⟩ = some (.int .i64 p) ∧ wd.size ≤ maxLen ∧ RowAt D w b rest (off + 4)

theorem rowAt_of {D : Nat → Prop} {w : World} {b : Nat} : ∀ (f : F) (off : Nat) (xs : List Value), Elems D w f xs → (∀ i x, xs[i]? = some x → w.cell? ⟨b, off + i, none⟩ = some x) → RowAt D w b f off
  | .nil, _, _, _, _ => trivial
  | .cons wd r p k rest, off, xs, h, hc => by
    obtain ⟨kv, ys, xs', rfl, hs, h1, h2, h3⟩ := h
    refine ⟨hc 0 _ rfl, ⟨kv, hc 1 _ rfl, ys, h1, h2⟩, hc 2 _ rfl, hc 3 _ rfl, hs, rowAt_of rest (off + 4) xs' h3 fun i x hi => ?_⟩
    have := hc (i + 4) x (by simpa using hi)
    rwa [show off + 4 + i = off + (i + 4) by omega]

theorem Sl.rowAt {D : Nat → Prop} {w : World} {v : Value} {f : F} (h : Sl D w v f) :
    ∃ a cap, v = .slice a f.len cap ∧ f.len ≤ cap ∧ cap ≤ maxLen ∧ (f = .nil ∨ ∃ b off, a = some ⟨b, off, none⟩ ∧ D b ∧ RowAt D w b f off) := by
  obtain ⟨ys, he, a, cap, rfl, h1, h2, _, h3⟩ := h
  refine ⟨a, cap, rfl, h1, h2, ?_⟩
  rcases h3 with rfl | ⟨b, off, rfl, hD, hc⟩
  · left
    cases f with
    | nil => rfl
    | cons _ _ _ _ _ => have := he.length; simp [F.len] at this
  · exact .inr ⟨b, off, rfl, hD, rowAt_of f off ys he hc⟩

theorem Sl.rowAt' {D : Nat → Prop} {w : World} {v : Value} {f : F} (h : Sl D w v f) :
    ∃ a cap b off, v = .slice a f.len cap ∧ f.len ≤ cap ∧ cap ≤ maxLen ∧ (0 < f.len → a = some ⟨b, off, none⟩ ∧ D b) ∧ RowAt D w b f off := by
  obtain ⟨a, cap, rfl, h1, h2, h3⟩ := h.rowAt
  rcases h3 with rfl | ⟨b, off, rfl, hD, h3⟩
  · exact ⟨a, cap, 0, 0, rfl, h1, h2, fun h => by simp [F.len] at h, trivial⟩
  · exact ⟨_, cap, b, off, rfl, h1, h2, fun _ => ⟨rfl, hD⟩, h3⟩

theorem Sl.cons {D : Nat → Prop} {w : World} {v : Value} {wd : ByteArray} {r : Bool} {p : Int} {k rest : F} (h : Sl D w v (.cons wd r p k rest)) :
    ∃ b off cap, v = .slice (some ⟨b, off, none⟩) (rest.len + 1) cap ∧ rest.len + 1 ≤ cap ∧ cap ≤ maxLen ∧ D b ∧ RowAt D w b (.cons wd r p k rest) off := by
  obtain ⟨a, cap, rfl, h1, h2, h3⟩ := h.rowAt
  rcases h3 with h3 | ⟨b, off, rfl, hD, h3⟩
  · cases h3
  · exact ⟨b, off, cap, rfl, h1, h2, hD, h3⟩

theorem Ext.sl {D M : Nat → Prop} {w w' : World} {v : Value} {f : F} (he : Ext M w w') (h : Sl D w v f) (hm : ∀ b, D b → ¬ M b) : Sl D w' v f := h.ext he hm

theorem RowAt.ext {D M : Nat → Prop} {w w' : World} {b : Nat} (he : Ext M w w') (hm : ∀ b, D b → ¬ M b) (hb : ¬ M b) : ∀ (f : F) (off : Nat), RowAt D w b f off → RowAt D w' b f off
  | .nil, _, _ => trivial
  | .cons _ _ _ _ rest, off, ⟨h0, ⟨kv, h1, hk⟩, h2, h3, h4, h5⟩ =>
    ⟨he.cellSome h0 hb, ⟨kv, he.cellSome h1 hb, hk.ext he hm⟩, he.cellSome h2 hb, he.cellSome h3 hb, h4, RowAt.ext he hm hb rest (off + 4) h5⟩

theorem RowAt.drewN {D : Nat → Prop} {w : World} {b : Nat} {f : F} {off : Nat} (h : RowAt D w b f off) (n : Nat) : RowAt D (w.drewN n) b f off :=
  RowAt.ext (ext_drewN w n (fun _ => False)) (fun _ _ h => h) id f off h

end Go.Proofs.YtmcinpeplkkpfaaGreatDoor

namespace Go.Proofs.YtmcinpeplkkpfaaGreatDoor
open Go.RowKit
inductive U where
  | nil
  | int (k : IntKind) (n : Int) (r : U)
  | str (s : ByteArray) (r : U)
  | bool (b : Bool) (r : U)
  | sl (n : Nat) (es r : U)

namespace U
def app : U → U → U | .nil, g => g | .int k n r, g => .int k n (r.app g) | .str s r, g => .str s (r.app g) | .bool b r, g => .bool b (r.app g) | .sl n es r, g => .sl n es (r.app g)

theorem app_nil : ∀ u : U, u.app .nil = u
  | .nil => rfl
  | .int _ _ r => by simp [app, app_nil r]
  | .str _ r => by simp [app, app_nil r]
  | .bool _ r => by simp [app, app_nil r]
  | .sl _ _ r => by simp [app, app_nil r]

theorem app_assoc : ∀ u v x : U, (u.app v).app x = u.app (v.app x)
  | .nil, _, _ => rfl
  | .int _ _ r, v, x => by simp [app, app_assoc r]
  | .str _ r, v, x => by simp [app, app_assoc r]
  | .bool _ r, v, x => by simp [app, app_assoc r]
  | .sl _ _ r, v, x => by simp [app, app_assoc r]

end U
def Rep (D : Nat → Prop) (w : World) : U → List Value → Prop
  | .nil, xs => xs = []
  | .int k n r, xs => ∃ xs', xs = .int k n :: xs' ∧ Rep D w r xs'
  | .str s r, xs => ∃ xs', xs = .string s :: xs' ∧ s.size ≤ maxLen ∧ Rep D w r xs'
  | .bool b r, xs => ∃ xs', xs = .bool b :: xs' ∧ Rep D w r xs'
  | .sl n es r, xs => ∃ v ys xs', xs = v :: xs' ∧ Rep D w es ys ∧ Held D w v n ys ∧ Rep D w r xs'

def SlU (D : Nat → Prop) (w : World) (v : Value) (n : Nat) (es : U) : Prop := ∃ ys, Rep D w es ys ∧ Held D w v n ys

theorem Rep.move {D D' : Nat → Prop} {w w' : World} (hb : ∀ b, D b → b < w.heap.size → w'.heap[b]? = w.heap[b]?) (hd : ∀ b, D b → b < w.heap.size → D' b) :
    ∀ (u : U) (xs : List Value), Rep D w u xs → Rep D' w' u xs
  | .nil, _, h => h
  | .int _ _ r, _, ⟨xs', e, h⟩ => ⟨xs', e, Rep.move hb hd r xs' h⟩
  | .str _ r, _, ⟨xs', e, hs, h⟩ => ⟨xs', e, hs, Rep.move hb hd r xs' h⟩
  | .bool _ r, _, ⟨xs', e, h⟩ => ⟨xs', e, Rep.move hb hd r xs' h⟩
  | .sl _ es r, _, ⟨v, ys, xs', e, h1, h2, h3⟩ => ⟨v, ys, xs', e, Rep.move hb hd es ys h1, h2.move hb hd, Rep.move hb hd r xs' h3⟩

theorem Rep.ext {D M : Nat → Prop} {w w' : World} {u : U} {xs : List Value} (h : Rep D w u xs) (he : Ext M w w') (hm : ∀ b, D b → ¬ M b) : Rep D w' u xs :=
  Rep.move (fun b hD hlt => he.block b hlt (hm b hD)) (fun _ h _ => h) u xs h

theorem Rep.mono {D D' : Nat → Prop} {w : World} {u : U} {xs : List Value} (h : Rep D w u xs) (hd : ∀ b, D b → b < w.heap.size → D' b) : Rep D' w u xs := Rep.move (fun _ _ _ => rfl) hd u xs h

theorem Rep.drewN {D : Nat → Prop} {w : World} {u : U} {xs : List Value} (h : Rep D w u xs) (n : Nat) : Rep D (w.drewN n) u xs := h.ext (ext_drewN w n (fun _ => False)) (fun _ _ h => h)

theorem SlU.move {D D' : Nat → Prop} {w w' : World} {v : Value} {n : Nat} {es : U} (h : SlU D w v n es) (hb : ∀ b, D b → b < w.heap.size → w'.heap[b]? = w.heap[b]?) (hd : ∀ b, D b → b < w.heap.size → D' b) : SlU D' w' v n es := by
  obtain ⟨ys, h1, h2⟩ := h
  exact ⟨ys, Rep.move hb hd es ys h1, h2.move hb hd⟩

theorem SlU.ext {D M : Nat → Prop} {w w' : World} {v : Value} {n : Nat} {es : U} (h : SlU D w v n es) (he : Ext M w w') (hm : ∀ b, D b → ¬ M b) : SlU D w' v n es :=
  h.move (fun b hD hlt => he.block b hlt (hm b hD)) fun _ h _ => h

theorem SlU.mono {D D' : Nat → Prop} {w : World} {v : Value} {n : Nat} {es : U} (h : SlU D w v n es) (hd : ∀ b, D b → b < w.heap.size → D' b) : SlU D' w v n es := h.move (fun _ _ _ => rfl) hd

theorem SlU.nil (D : Nat → Prop) (w : World) : SlU D w (.slice none 0 0) 0 .nil := ⟨[], rfl, none, 0, rfl, Nat.le_refl _, Nat.zero_le _, fun _ => rfl, .inl rfl⟩

theorem SlU.shape {D : Nat → Prop} {w : World} {v : Value} {n : Nat} {es : U} (h : SlU D w v n es) : ∃ a cap, v = .slice a n cap ∧ n ≤ cap ∧ cap ≤ maxLen := by
  obtain ⟨ys, _, a, cap, h1, h2, h3, _⟩ := h; exact ⟨a, cap, h1, h2, h3⟩

theorem Rep.app {D : Nat → Prop} {w : World} : ∀ {u v : U} {xs ys : List Value}, Rep D w u xs → Rep D w v ys → Rep D w (u.app v) (xs ++ ys)
  | .nil, _, _, _, h, h' => by rw [show _ = [] from h]; exact h'
  | .int _ _ r, _, _, _, ⟨xs', e, h⟩, h' => by subst e; exact ⟨_, rfl, Rep.app h h'⟩
  | .str _ r, _, _, _, ⟨xs', e, hs, h⟩, h' => by subst e; exact ⟨_, rfl, hs, Rep.app h h'⟩
  | .bool _ r, _, _, _, ⟨xs', e, h⟩, h' => by subst e; exact ⟨_, rfl, Rep.app h h'⟩
  | .sl _ _ r, _, _, _, ⟨v, zs, xs', e, h1, h2, h⟩, h' => by subst e; exact ⟨v, zs, _, rfl, h1, h2, Rep.app h h'⟩

theorem Rep.split {D : Nat → Prop} {w : World} : ∀ {u v : U} {zs : List Value}, Rep D w (u.app v) zs → ∃ xs ys, zs = xs ++ ys ∧ Rep D w u xs ∧ Rep D w v ys
  | .nil, _, zs, h => ⟨[], zs, rfl, rfl, h⟩
  | .int _ _ r, _, _, ⟨xs', e, h⟩ => by subst e; obtain ⟨a, b, rfl, h1, h2⟩ := Rep.split h; exact ⟨_ :: a, b, rfl, ⟨_, rfl, h1⟩, h2⟩
  | .str _ r, _, _, ⟨xs', e, hs, h⟩ => by subst e; obtain ⟨a, b, rfl, h1, h2⟩ := Rep.split h; exact ⟨_ :: a, b, rfl, ⟨_, rfl, hs, h1⟩, h2⟩
  | .bool _ r, _, _, ⟨xs', e, h⟩ => by subst e; obtain ⟨a, b, rfl, h1, h2⟩ := Rep.split h; exact ⟨_ :: a, b, rfl, ⟨_, rfl, h1⟩, h2⟩
  | .sl _ _ r, _, _, ⟨v, zs, xs', e, g1, g2, h⟩ => by subst e; obtain ⟨a, b, rfl, h1, h2⟩ := Rep.split h; exact ⟨_ :: a, b, rfl, ⟨v, zs, _, rfl, g1, g2, h1⟩, h2⟩

theorem Rep.grew {D : Nat → Prop} {w w' : World} {v v' : Value} {u : U} {xs : List Value} (h : Rep (fun b => D b ∧ v.ownBlock ≠ some b) w u xs) (hg : Grew v v' w w') : Rep (fun b => D b ∧ v'.ownBlock ≠ some b) w' u xs :=
  Rep.move (fun b hb hlt => hg.by_.block b hlt (fun e => hb.2 e.symm)) (fun b hb hlt => ⟨hb.1, fun e => by
    rcases hg.own b e with h | h
    · exact hb.2 h
    · omega⟩) u xs h

theorem slU_owned {w : World} {base e size n : Nat} {v : Value} {u : U} {xs : List Value} (h : w.ownsRow base e size v n xs) (he : Rep (fun b => base ≤ b ∧ v.ownBlock ≠ some b) w u xs) :
    SlU (fun b => base ≤ b) w v n u :=
  ⟨xs, he.mono (fun _ h _ => h.1), (held_of_owns h).move (fun _ _ _ => rfl) fun _ h _ => h.2⟩

theorem slU_new {D : Nat → Prop} {w : World} {b n : Nat} {cs : Array Value} {t : TypeId} {u : U} (hb : Blk w b cs t) (hu : Rep D w u cs.toList) (hD : D b) (hn : n ≤ maxLen) : SlU D w (.slice (some ⟨b, 0, none⟩) n n) n u :=
  ⟨cs.toList, hu, some ⟨b, 0, none⟩, n, rfl, Nat.le_refl _, hn, (fun h => by cases h), .inr ⟨b, 0, rfl, hD, fun i x hi => by
    rw [Nat.zero_add, hb.cell i]; simpa using hi⟩⟩

end Go.Proofs.YtmcinpeplkkpfaaGreatDoor

namespace Go.Proofs.YtmcinpeplkkpfaaGreatDoor
structure ZI where
  neg : Bool
  ds : List Nat

def digsU : List Nat → U | [] => .nil | d :: l => .int .u32 d (digsU l)

def ZI.u (z : ZI) (r : U) : U := .bool z.neg (.sl z.ds.length (digsU z.ds) r)

def ZI.zero : ZI := ⟨false, []⟩

structure Ra where
  num : ZI
  den : ZI

def Ra.u (x : Ra) (r : U) : U := x.num.u (x.den.u r)

def rasU : List Ra → U | [] => .nil | x :: l => x.u (rasU l)

def intsU : List Int → U | [] => .nil | x :: l => .int .i64 x (intsU l)

def strsU : List ByteArray → U | [] => .nil | x :: l => .str x (strsU l)

inductive Tm where
  | mk (kind : Nat) (name : ByteArray) (num : ZI) (kids : List Tm)

mutual
def Tm.u : Tm → U → U | .mk k n z kids, r => .int .u8 k (.str n (z.u (.sl kids.length (tmsU kids) r)))
def tmsU : List Tm → U | [] => .nil | t :: l => t.u (tmsU l)
end

def Tm.none : Tm := .mk 0 ByteArray.empty .zero []

inductive Ty where
  | mk (fn : Bool) (sort : ByteArray) (refine : Tm) (params : List (ByteArray × Ty)) (result : List Ty)

abbrev Pm := ByteArray × Ty

mutual
def Ty.u : Ty → U → U | .mk f s m ps q, r => .bool f (.str s (m.u (.sl ps.length (pmsU ps) (.sl q.length (tysU q) r))))
def pmsU : List (ByteArray × Ty) → U | [] => .nil | (n, t) :: l => .str n (t.u (pmsU l))
def tysU : List Ty → U | [] => .nil | t :: l => t.u (tysU l)
end

structure Ao where
  kind : Nat
  name : ByteArray
  num : ZI
  truth : Bool

def Ao.u (a : Ao) (r : U) : U := .int .u8 a.kind (.str a.name (a.num.u (.bool a.truth r)))

def aosU : List Ao → U | [] => .nil | a :: l => a.u (aosU l)

def Ao.none : Ao := ⟨0, ByteArray.empty, .zero, false⟩

mutual
inductive Ex where
  | mk (kind : Nat) (name : ByteArray) (type : List Ty) (rhs : List Rh) (atom : Ao) (arms : List Ar) (body : List Ex)
inductive Rh where
  | mk (kind : Nat) (name : ByteArray) (atoms : List Ao) (params : List Pm) (result : List Ty) (body : List Ex) (terms : List Tm)
inductive Ar where
  | mk (con : ByteArray) (names : List ByteArray) (body : List Ex)
end

mutual
def Ex.u : Ex → U → U | .mk k n ty rh a ar b, r => .int .u8 k (.str n (.sl ty.length (tysU ty) (.sl rh.length (rhsU rh) (a.u (.sl ar.length (arsU ar) (.sl b.length (exsU b) r))))))
def Rh.u : Rh → U → U | .mk k n as0 ps q b ts, r => .int .u8 k (.str n (.sl as0.length (aosU as0) (.sl ps.length (pmsU ps) (.sl q.length (tysU q) (.sl b.length (exsU b) (.sl ts.length (tmsU ts) r))))))
def Ar.u : Ar → U → U | .mk c ns b, r => .str c (.sl ns.length (strsU ns) (.sl b.length (exsU b) r))
def exsU : List Ex → U | [] => .nil | e :: l => e.u (exsU l)
def rhsU : List Rh → U | [] => .nil | e :: l => e.u (rhsU l)
def arsU : List Ar → U | [] => .nil | e :: l => e.u (arsU l)
end

def Ex.none : Ex := .mk 0 ByteArray.empty [] [] .none [] []

def Rh.none : Rh := .mk 0 ByteArray.empty [] [] [] [] []

inductive Pf where
  | mk (kind : Nat) (ats : List Int) (coefs : List Ra) (name : ByteArray) (terms : List Tm) (num : ZI) (kids : List Pf)

mutual
def Pf.u : Pf → U → U | .mk k a c n ts z kids, r => .int .u8 k (.sl a.length (intsU a) (.sl c.length (rasU c) (.str n (.sl ts.length (tmsU ts) (z.u (.sl kids.length (pfsU kids) r))))))
def pfsU : List Pf → U | [] => .nil | p :: l => p.u (pfsU l)
end

abbrev Sd := ByteArray × ByteArray

def sdsU : List Sd → U | [] => .nil | (n, s) :: l => .str n (.str s (sdsU l))

structure Cn where
  name : ByteArray
  fields : List ByteArray

def Cn.u (c : Cn) (r : U) : U := .str c.name (.sl c.fields.length (strsU c.fields) r)

def cnsU : List Cn → U | [] => .nil | c :: l => c.u (cnsU l)

structure Da where
  name : ByteArray
  cons : List Cn

def Da.u (d : Da) (r : U) : U := .str d.name (.sl d.cons.length (cnsU d.cons) r)

def dasU : List Da → U | [] => .nil | d :: l => d.u (dasU l)

structure Ka where
  name : ByteArray
  params : List Sd
  body : Tm

def Ka.u (k : Ka) (r : U) : U := .str k.name (.sl k.params.length (sdsU k.params) (k.body.u r))

def kasU : List Ka → U | [] => .nil | k :: l => k.u (kasU l)

structure Fu where
  name : ByteArray
  params : List Pm
  result : Ty
  body : Ex

def Fu.u (f : Fu) (r : U) : U := .str f.name (.sl f.params.length (pmsU f.params) (f.result.u (f.body.u r)))

def fusU : List Fu → U | [] => .nil | f :: l => f.u (fusU l)

structure Pg where
  datas : List Da
  kappas : List Ka
  funs : List Fu
  proofs : List Pf

def Pg.u (p : Pg) (r : U) : U := .sl p.datas.length (dasU p.datas) (.sl p.kappas.length (kasU p.kappas) (.sl p.funs.length (fusU p.funs) (.sl p.proofs.length (pfsU p.proofs) r)))

def Pg.none : Pg := ⟨[], [], [], []⟩

end Go.Proofs.YtmcinpeplkkpfaaGreatDoor

namespace Go.Proofs.YtmcinpeplkkpfaaGreatDoor
def isBlank (c : UInt8) : Bool := c == 32 || c == 10

def isSign (c : UInt8) : Bool := (97 ≤ c && c ≤ 122) || (48 ≤ c && c ≤ 57) || c == 95 || c == 45 || c == 46 || c == 43 || c == 42 || c == 47 || c == 61 || c == 60 || c == 62

def adv (p : UInt8 → Bool) (s : ByteArray) (i : Nat) : Nat := i + ((s.data.toList.drop i).takeWhile p).length

theorem drop_cons {s : ByteArray} {i : Nat} (h : i < s.size) : s.data.toList.drop i = s[i] :: s.data.toList.drop (i + 1) := by
  rw [List.drop_eq_getElem_cons (by simpa using h)]; rfl

theorem drop_end {s : ByteArray} {i : Nat} (h : s.size ≤ i) : s.data.toList.drop i = [] := List.drop_of_length_le (by simpa using h)

theorem adv_end (p : UInt8 → Bool) {s : ByteArray} {i : Nat} (h : s.size ≤ i) : adv p s i = i := by simp [adv, drop_end h]

theorem adv_stop (p : UInt8 → Bool) {s : ByteArray} {i : Nat} (h : i < s.size) (hp : p s[i] = false) : adv p s i = i := by
  simp [adv, drop_cons h, hp]

theorem adv_step (p : UInt8 → Bool) {s : ByteArray} {i : Nat} (h : i < s.size) (hp : p s[i] = true) : adv p s i = adv p s (i + 1) := by
  simp [adv, drop_cons h, hp]; omega

theorem adv_ge (p : UInt8 → Bool) (s : ByteArray) (i : Nat) : i ≤ adv p s i := by unfold adv; omega

theorem adv_le (p : UInt8 → Bool) (s : ByteArray) (i : Nat) (h : i ≤ s.size) : adv p s i ≤ s.size := by
  unfold adv
  have := (List.takeWhile_sublist (l := s.data.toList.drop i) p).length_le
  simp at this; omega

abbrev R := Except (Nat × Int) (F × Nat)

def R.pre (f : F) : R → R
  | .ok (g, e) => .ok (f.app g, e)
  | .error x => .error x

def rowK (s : ByteArray) : Nat → Nat → Nat → R
  | 0, _, _ => .error (0, 0)
  | k + 1, at_, op =>
    let i := adv isBlank s at_
    if h : i < s.size then
      if s[i] = 41 then .ok (.nil, i)
      else if s[i] ≠ 40 then
        if adv isSign s i = i then .error (i, 20)
        else R.pre (.cons (s.extract i (adv isSign s i)) false i .nil .nil) (rowK s k (adv isSign s i) op)
      else if ¬ op < 400 then .error (i, 3)
      else match rowK s k (i + 1) (op + 1) with
        | .error x => .error x
        | .ok (f, e) => if ¬ e < s.size then .error (e, 20) else R.pre (.cons ByteArray.empty true i f .nil) (rowK s k (e + 1) op)
    else .ok (.nil, i)

theorem R.pre_pre (f g : F) (r : R) : R.pre f (R.pre g r) = R.pre (f.app g) r := by
  cases r with
  | error x => rfl
  | ok x => obtain ⟨h, e⟩ := x; simp [R.pre, F.app_assoc]

theorem R.pre_nil (r : R) : R.pre .nil r = r := by
  cases r with
  | error x => rfl
  | ok x => obtain ⟨h, e⟩ := x; simp [R.pre, F.app]

theorem rowK_succ (s : ByteArray) (k at_ op : Nat) : rowK s (k + 1) at_ op =
    if h : adv isBlank s at_ < s.size then
      if s[adv isBlank s at_] = 41 then .ok (.nil, adv isBlank s at_)
      else if s[adv isBlank s at_] ≠ 40 then
        if adv isSign s (adv isBlank s at_) = adv isBlank s at_ then .error (adv isBlank s at_, 20)
        else R.pre (.cons (s.extract (adv isBlank s at_) (adv isSign s (adv isBlank s at_))) false (adv isBlank s at_) .nil .nil) (rowK s k (adv isSign s (adv isBlank s at_)) op)
      else if ¬ op < 400 then .error (adv isBlank s at_, 3)
      else match rowK s k (adv isBlank s at_ + 1) (op + 1) with
        | .error x => .error x
        | .ok (f, e) => if ¬ e < s.size then .error (e, 20) else R.pre (.cons ByteArray.empty true (adv isBlank s at_) f .nil) (rowK s k (e + 1) op)
    else .ok (.nil, adv isBlank s at_) := rfl

theorem rowK_end (s : ByteArray) : ∀ k at_ op f e, at_ ≤ s.size → s.size - at_ < k → rowK s k at_ op = .ok (f, e) → at_ ≤ e ∧ e ≤ s.size ∧ ∀ h : e < s.size, s[e] = 41 := by
  intro k
  induction k with
  | zero => intro at_ op f e _ h; omega
  | succ k ih =>
    intro at_ op f e hat hk h
    rw [rowK_succ] at h
    have h1 := adv_ge isBlank s at_
    have h2 := adv_le isBlank s at_ hat
    generalize adv isBlank s at_ = i at *
    split at h
    · rename_i hi
      split at h
      · rename_i h41; simp at h; obtain ⟨rfl, rfl⟩ := h; exact ⟨h1, h2, fun _ => h41⟩
      · split at h
        · split at h
          · cases h
          · rename_i hne
            have h3 := adv_ge isSign s i
            have h4 := adv_le isSign s i h2
            cases hr : rowK s k (adv isSign s i) op with
            | error x => rw [hr] at h; cases h
            | ok x =>
              obtain ⟨g, e'⟩ := x
              rw [hr] at h; simp [R.pre] at h
              obtain ⟨_, rfl⟩ := h
              have := ih _ _ _ _ h4 (by omega) hr
              exact ⟨by omega, this.2⟩
        · split at h
          · cases h
          · split at h
            · cases h
            · rename_i f' e' hr
              split at h
              · cases h
              · rename_i hlt
                have hlt' : e' < s.size := by omega
                have hh := ih _ _ _ _ (by omega) (by omega) hr
                cases hr2 : rowK s k (e' + 1) op with
                | error x => rw [hr2] at h; cases h
                | ok x =>
                  obtain ⟨g, e''⟩ := x
                  rw [hr2] at h; simp [R.pre] at h
                  obtain ⟨_, rfl⟩ := h
                  have := ih _ _ _ _ (by omega) (by omega) hr2
                  exact ⟨by omega, this.2⟩
    · simp at h; obtain ⟨rfl, rfl⟩ := h; exact ⟨h1, h2, fun h => absurd h ‹_›⟩

theorem rowK_fuel (s : ByteArray) : ∀ k k' at_ op, at_ ≤ s.size → s.size - at_ < k → s.size - at_ < k' → rowK s k at_ op = rowK s k' at_ op := by
  intro k
  induction k with
  | zero => intro k' at_ op _ h; omega
  | succ k ih =>
    intro k' at_ op hat hk hk'
    obtain ⟨k', rfl⟩ : ∃ m, k' = m + 1 := ⟨k' - 1, by omega⟩
    rw [rowK_succ, rowK_succ]
    have h1 := adv_ge isBlank s at_
    have h2 := adv_le isBlank s at_ hat
    generalize adv isBlank s at_ = i at *
    split
    · split
      · rfl
      · split
        · split
          · rfl
          · have h3 := adv_ge isSign s i
            have h4 := adv_le isSign s i h2
            rw [ih k' _ op h4 (by omega) (by omega)]
        · split
          · rfl
          · rw [ih k' (i + 1) (op + 1) (by omega) (by omega) (by omega)]
            cases hr : rowK s k' (i + 1) (op + 1) with
            | error x => rfl
            | ok x =>
              obtain ⟨f, e⟩ := x
              have hh := rowK_end s _ _ _ _ _ (by omega) (by omega) hr
              simp only
              split
              · rfl
              · rw [ih k' (e + 1) op (by omega) (by omega) (by omega)]
    · rfl

def rowP (s : ByteArray) (at_ op : Nat) : R := rowK s (s.size - at_ + 1) at_ op

theorem rowP_end {s : ByteArray} {at_ op : Nat} {f : F} {e : Nat} (hat : at_ ≤ s.size) (h : rowP s at_ op = .ok (f, e)) : at_ ≤ e ∧ e ≤ s.size ∧ ∀ h : e < s.size, s[e] = 41 :=
  rowK_end s _ _ _ _ _ hat (by omega) h

theorem rowP_eq (s : ByteArray) (at_ op : Nat) (hat : at_ ≤ s.size) : rowP s at_ op =
    if h : adv isBlank s at_ < s.size then
      if s[adv isBlank s at_] = 41 then .ok (.nil, adv isBlank s at_)
      else if s[adv isBlank s at_] ≠ 40 then
        if adv isSign s (adv isBlank s at_) = adv isBlank s at_ then .error (adv isBlank s at_, 20)
        else R.pre (.cons (s.extract (adv isBlank s at_) (adv isSign s (adv isBlank s at_))) false (adv isBlank s at_) .nil .nil) (rowP s (adv isSign s (adv isBlank s at_)) op)
      else if ¬ op < 400 then .error (adv isBlank s at_, 3)
      else match rowP s (adv isBlank s at_ + 1) (op + 1) with
        | .error x => .error x
        | .ok (f, e) => if ¬ e < s.size then .error (e, 20) else R.pre (.cons ByteArray.empty true (adv isBlank s at_) f .nil) (rowP s (e + 1) op)
    else .ok (.nil, adv isBlank s at_) := by
  have e0 : rowP s at_ op = rowK s (s.size - at_ + 2) at_ op := rowK_fuel s _ _ _ _ hat (by omega) (by omega)
  rw [e0, rowK_succ]
  have h1 := adv_ge isBlank s at_
  have h2 := adv_le isBlank s at_ hat
  generalize adv isBlank s at_ = i at *
  split
  · split
    · rfl
    · split
      · split
        · rfl
        · have h3 := adv_ge isSign s i
          have h4 := adv_le isSign s i h2
          rw [rowK_fuel s _ (s.size - adv isSign s i + 1) (adv isSign s i) op h4 (by omega) (by omega)]; rfl
      · split
        · rfl
        · rw [rowK_fuel s _ (s.size - (i + 1) + 1) (i + 1) (op + 1) (by omega) (by omega) (by omega)]
          change (match rowP s (i + 1) (op + 1) with | .error x => _ | .ok (f, e) => _) = _
          cases hr : rowP s (i + 1) (op + 1) with
          | error x => rfl
          | ok x =>
            obtain ⟨f, e⟩ := x
            have hh := rowP_end (by omega) hr
            simp only
            split
            · rfl
            · rw [rowK_fuel s _ (s.size - (e + 1) + 1) (e + 1) op (by omega) (by omega) (by omega)]; rfl
  · rfl

def parseS (s : ByteArray) : F × Nat × Int :=
  if 262144 < s.size then (.nil, 0, 3)
  else match rowP s 0 0 with
    | .error (p, e) => (.nil, p, e)
    | .ok (f, e) => if e < s.size then (.nil, e, 20) else (f, 0, 0)

end Go.Proofs.YtmcinpeplkkpfaaGreatDoor

namespace Go.Proofs.YtmcinpeplkkpfaaGreatDoor
set_option linter.unusedVariables false
def wIs (s : ByteArray) (l : List UInt8) : Bool := s.data.toList == l

def lower (c : UInt8) : Bool := 97 ≤ c && c ≤ 122

def digit (c : UInt8) : Bool := 48 ≤ c && c ≤ 57

def nameByte (c : UInt8) : Bool := lower c || digit c || c == 95

def reserved : List (List UInt8) := [[116, 114, 117, 101], [102, 97, 108, 115, 101], [116, 97, 103], [97, 110, 100], [111, 114], [110, 111, 116], [105, 102, 102], [107, 97, 112, 112, 97]]

def nameL : List UInt8 → Bool
  | [] => false
  | c :: l => (c :: l).length ≤ 40 && lower c && (c :: l).all nameByte && !reserved.contains (c :: l)

def isName (s : ByteArray) : Bool := nameL s.data.toList

def funL (l : List UInt8) : Bool := l == [116, 97, 103] || (match l.dropWhile (· != 46) with
  | [_, d] => digit d && nameL (l.takeWhile (· != 46))
  | _ => false)

def isFun (s : ByteArray) : Bool := funL s.data.toList

def limbsK : Nat → Nat → List Nat
  | 0, _ => []
  | k + 1, n => if n = 0 then [] else n % 1000000000 :: limbsK k (n / 1000000000)

def limbs (n : Nat) : List Nat := limbsK n n

def decL (l : List UInt8) : Nat := l.foldl (fun n c => 10 * n + (c.toNat - 48)) 0

def isDec : List UInt8 → Bool
  | [] => false
  | [c] => digit c
  | c :: l => c != 48 && (c :: l).all digit

def numL (l : List UInt8) : Option ZI :=
  match l with
  | 45 :: r => if isDec r && decL r != 0 then some ⟨true, limbs (decL r)⟩ else none
  | _ => if isDec l then some ⟨false, limbs (decL l)⟩ else none

def numS (s : ByteArray) : Option ZI := numL s.data.toList

def numberS (wd : ByteArray) (r : Bool) : Option ZI := if r || 400 < wd.size then none else numS wd

abbrev RR := Except Int

def headW (r : Bool) (k : F) : ByteArray := if r then (match k with | .cons wd false _ _ _ => wd | _ => ByteArray.empty) else ByteArray.empty

def nameS (wd : ByteArray) (r : Bool) (p : Int) : RR ByteArray := if r || !isName wd then .error p else .ok wd

def wholeS (wd : ByteArray) (r : Bool) (p : Int) : RR ZI := match numberS wd r with | some z => .ok z | none => .error p

def wordS (wd : ByteArray) (r : Bool) (p : Int) : RR Tm :=
  match numberS wd r with
  | some z => .ok (.mk 2 ByteArray.empty z [])
  | none => if wIs wd [116, 114, 117, 101] then .ok (.mk 3 ByteArray.empty .zero []) else if wIs wd [102, 97, 108, 115, 101] then .ok (.mk 4 ByteArray.empty .zero []) else
    match nameS wd r p with
    | .ok n => .ok (.mk 1 n .zero [])
    | .error e => .error e

def atomS (wd : ByteArray) (r : Bool) (p : Int) : RR Ao :=
  match numberS wd r with
  | some z => .ok ⟨2, ByteArray.empty, z, false⟩
  | none => if !r && (wIs wd [116, 114, 117, 101] || wIs wd [102, 97, 108, 115, 101]) then .ok ⟨3, ByteArray.empty, .zero, wIs wd [116, 114, 117, 101]⟩ else
    match nameS wd r p with
    | .ok n => .ok ⟨1, n, .zero, false⟩
    | .error e => .error e

def formS (w : ByteArray) : Option (Nat × Option Nat) :=
  if wIs w [43] then some (5, none) else if wIs w [61] then some (8, some 2) else if wIs w [60, 61] then some (9, some 2)
  else if wIs w [110, 111, 116] then some (10, some 1) else if wIs w [97, 110, 100] then some (11, none) else if wIs w [111, 114] then some (12, none)
  else if wIs w [105, 102, 102] then some (13, some 2) else none

def eachS {α : Type} (f : ByteArray → Bool → Int → F → RR α) : F → RR (List α)
  | .nil => .ok []
  | .cons wd r p k rest => match f wd r p k with
    | .error e => .error e
    | .ok a => match eachS f rest with
      | .error e => .error e
      | .ok l => .ok (a :: l)

mutual

def termS : F → ByteArray → Bool → Int → RR Tm
  | .nil, wd, r, p => if r then .error p else wordS wd r p
  | .cons wd0 r0 p0 k0 rest, wd, r, p =>
    if r then
      let w := if r0 then ByteArray.empty else wd0
      if wIs w [42] then
        match rest with
        | .cons wd1 r1 p1 _ (.cons wd2 r2 p2 k2 .nil) => match wholeS wd1 r1 p1 with
          | .error e => .error e
          | .ok z => match termS k2 wd2 r2 p2 with
            | .error e => .error e
            | .ok t => .ok (.mk 6 ByteArray.empty z [t])
        | _ => .error p
      else if wIs w [107, 97, 112, 112, 97] && rest.len != 0 then
        match rest with
        | .cons wd1 r1 p1 _ rest2 => match nameS wd1 r1 p1 with
          | .error e => .error e
          | .ok n => match termsS rest2 with
            | .error e => .error e
            | .ok l => .ok (.mk 14 n .zero l)
        | .nil => .error p
      else match formS w with
        | some (kind, many) => if (match many with | some m => rest.len != m | none => false) then .error p else match termsS rest with
          | .error e => .error e
          | .ok l => .ok (.mk kind ByteArray.empty .zero l)
        | none => if isFun w && rest.len == 1 then
            match termsS rest with
            | .error e => .error e
            | .ok l => .ok (.mk 7 w .zero l)
          else .error p
    else wordS wd r p
def termsS : F → RR (List Tm)
  | .nil => .ok []
  | .cons wd r p k rest => match termS k wd r p with
    | .error e => .error e
    | .ok t => match termsS rest with
      | .error e => .error e
      | .ok l => .ok (t :: l)
end

def rowOf {α : Type} (r : Bool) (p : Int) (x : RR (List α)) : RR (List α) := if r then x else .error p

mutual

def kindS : F → ByteArray → Bool → Int → RR Ty
  | k, _, r, p =>
    if !wIs (headW r k) [45, 62] then
      match k with
      | .cons wd0 r0 p0 _ (.cons wd1 r1 p1 k1 .nil) => if !r then .error p else match nameS wd0 r0 p0 with
        | .error e => .error e
        | .ok n => match termS k1 wd1 r1 p1 with
          | .error e => .error e
          | .ok t => .ok (.mk false n t [] [])
      | _ => .error p
    else match k with
      | .cons _ _ _ _ (.cons _ r1 p1 k1 (.cons wd2 r2 p2 k2 .nil)) => match rowOf r1 p1 (paramsS k1) with
        | .error e => .error e
        | .ok l => match kindS k2 wd2 r2 p2 with
          | .error e => .error e
          | .ok t => .ok (.mk true ByteArray.empty .none l [t])
      | _ => .error p

def paramsS : F → RR (List Pm)
  | .nil => .ok []
  | .cons _ r p k rest => match (match k with
      | .cons wd0 r0 p0 _ (.cons wd1 r1 p1 k1 .nil) => if !r then .error p else match nameS wd0 r0 p0 with
        | .error e => .error e
        | .ok n => match kindS k1 wd1 r1 p1 with
          | .error e => .error e
          | .ok t => .ok (n, t)
      | _ => .error p : RR Pm) with
    | .error e => .error e
    | .ok a => match paramsS rest with
      | .error e => .error e
      | .ok l => .ok (a :: l)
end

def atomsS (f : F) : RR (List Ao) := eachS (fun wd r p _ => atomS wd r p) f

def namesS (f : F) : RR (List ByteArray) := eachS (fun wd r p _ => nameS wd r p) f

def prims : List (List UInt8) := [[97, 100, 100], [115, 117, 98], [109, 117, 108], [100, 105, 118], [109, 111, 100], [101, 113], [108, 101], [108, 116], [97, 110, 100], [111, 114], [110, 111, 116]]

def bodyOf {α : Type} (r : Bool) (p : Int) (k : F) (x : RR α) : RR α := if !r || k.len == 0 then .error p else x

mutual

def bodyS : F → RR Ex
  | .nil => .error 0
  | .cons _ r p k rest =>
    match rest with
    | .nil => lastS k r p
    | .cons _ _ _ _ _ => match letS k r p with
      | .error e => .error e
      | .ok (n, t, s) => match bodyS rest with
        | .error e => .error e
        | .ok b => .ok (.mk 1 n [t] [s] .none [] [b])

def letS : F → Bool → Int → RR (ByteArray × Ty × Rh)
  | k, r, p =>
    if !wIs (headW r k) [108, 101, 116] then .error p else match k with
    | .cons _ _ _ _ (.cons wd1 r1 p1 _ (.cons wd2 r2 p2 k2 (.cons wd3 r3 p3 k3 .nil))) => match nameS wd1 r1 p1 with
      | .error e => .error e
      | .ok n => match kindS k2 wd2 r2 p2 with
        | .error e => .error e
        | .ok t => match rightS k3 wd3 r3 p3 with
          | .error e => .error e
          | .ok s => .ok (n, t, s)
    | _ => .error p

def rightS : F → ByteArray → Bool → Int → RR Rh
  | .nil, wd, r, p => if r then .error p else match atomS wd r p with
    | .error e => .error e
    | .ok a => .ok (.mk 1 ByteArray.empty [a] [] [] [] [])
  | .cons wd0 r0 _ _ rest, wd, r, p =>
    if !r then match atomS wd r p with
      | .error e => .error e
      | .ok a => .ok (.mk 1 ByteArray.empty [a] [] [] [] [])
    else
      let w := if r0 then ByteArray.empty else wd0
      if prims.contains w.data.toList then match atomsS rest with
        | .error e => .error e
        | .ok l => .ok (.mk 2 w l [] [] [] [])
      else if wIs w [99, 111, 110] && rest.len != 0 then match rest with
        | .cons wd1 r1 p1 _ rest2 => match nameS wd1 r1 p1 with
          | .error e => .error e
          | .ok n => match atomsS rest2 with
            | .error e => .error e
            | .ok l => .ok (.mk 3 n l [] [] [] [])
        | .nil => .error p
      else if wIs w [99, 97, 108, 108] && rest.len != 0 then match atomsS rest with
        | .error e => .error e
        | .ok l => .ok (.mk 5 ByteArray.empty l [] [] [] [])
      else if wIs w [112, 114, 105, 110, 116] && rest.len == 1 then match atomsS rest with
        | .error e => .error e
        | .ok l => .ok (.mk 7 ByteArray.empty l [] [] [] [])
      else if wIs w [97, 115, 115, 101, 114, 116] && rest.len == 1 then match termsS rest with
        | .error e => .error e
        | .ok l => .ok (.mk 8 ByteArray.empty [] [] [] [] l)
      else if wIs w [100, 111] && rest.len == 1 then match bodiesS rest with
        | .error e => .error e
        | .ok l => .ok (.mk 6 ByteArray.empty [] [] [] l [])
      else if wIs w [108, 97, 109] then match rest with
        | .cons _ r1 p1 k1 (.cons wd2 r2 p2 k2 (.cons _ r3 p3 k3 .nil)) => match rowOf r1 p1 (paramsS k1) with
          | .error e => .error e
          | .ok ps => match kindS k2 wd2 r2 p2 with
            | .error e => .error e
            | .ok t => match bodyOf r3 p3 k3 (bodyS k3) with
              | .error e => .error e
              | .ok b => .ok (.mk 4 ByteArray.empty [] ps [t] [b] [])
        | _ => .error p
      else .error p
def bodiesS : F → RR (List Ex)
  | .nil => .ok []
  | .cons _ r p k rest => match bodyOf r p k (bodyS k) with
    | .error e => .error e
    | .ok a => match bodiesS rest with
      | .error e => .error e
      | .ok l => .ok (a :: l)

def armsS : F → RR (List Ar)
  | .nil => .ok []
  | .cons _ r p k rest => match (match k with
      | .cons wd0 r0 p0 _ (.cons _ r1 p1 k1 (.cons _ r2 p2 k2 .nil)) => if !r then .error p else match nameS wd0 r0 p0 with
        | .error e => .error e
        | .ok n => match rowOf r1 p1 (namesS k1) with
          | .error e => .error e
          | .ok ns => match bodyOf r2 p2 k2 (bodyS k2) with
            | .error e => .error e
            | .ok b => .ok (.mk n ns [b])
      | _ => .error p : RR Ar) with
    | .error e => .error e
    | .ok a => match armsS rest with
      | .error e => .error e
      | .ok l => .ok (a :: l)

def lastS : F → Bool → Int → RR Ex
  | .nil, _, p => .error p
  | .cons wd0 r0 _ _ rest, r, p =>
    let w := if r0 || !r then ByteArray.empty else wd0
    if wIs w [114, 101, 116] && rest.len == 1 then match rest with
      | .cons wd1 r1 p1 _ _ => match atomS wd1 r1 p1 with
        | .error e => .error e
        | .ok a => .ok (.mk 2 ByteArray.empty [] [] a [] [])
      | .nil => .error p
    else if wIs w [105, 102] && rest.len == 3 then match rest with
      | .cons wd1 r1 p1 _ rest2 => match atomS wd1 r1 p1 with
        | .error e => .error e
        | .ok a => match bodiesS rest2 with
          | .error e => .error e
          | .ok l => .ok (.mk 3 ByteArray.empty [] [] a [] l)
      | .nil => .error p
    else if wIs w [109, 97, 116, 99, 104] && rest.len != 0 then match rest with
      | .cons wd1 r1 p1 _ rest2 => match atomS wd1 r1 p1 with
        | .error e => .error e
        | .ok a => match armsS rest2 with
          | .error e => .error e
          | .ok l => .ok (.mk 4 ByteArray.empty [] [] a l [])
      | .nil => .error p
    else .error p
end

end Go.Proofs.YtmcinpeplkkpfaaGreatDoor
