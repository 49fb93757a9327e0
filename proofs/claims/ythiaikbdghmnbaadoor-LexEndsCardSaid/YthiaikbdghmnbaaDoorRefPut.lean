/- Walk: (*rows).put of the reference. -/
import Derived.Test.YthiaikbdghmnbaaDoorRefMem
namespace Go.Proofs.YthiaikbdghmnbaaDoor
open Go.RowKit

theorem RowsOK.top {D : Nat → Prop} {w : World} {base : Nat} {f : F} {b : Nat} {st : List (F × Nat)} {vs : List Value} (h : RowsOK D w base ((f, b) :: st) vs) :
    ∃ v vs', vs = v :: vs' ∧ (∃ xs, w.ownsRow base 83 4 v f.len xs ∧ Elems D w f xs) ∧ RowsOK D w base st vs' := by
  cases vs with
  | nil => exact h.elim
  | cons v vs' => exact ⟨v, vs', rfl, h.1, h.2⟩

/-- What put leaves: the tree stands behind the top row's others. -/
def PutPost (base br : Nat) (w : World) (st : List (F × Nat)) (lv bv : Value) (e : Ending) (w' : World) : Prop :=
  e = .returned (.tuple #[]) ∧ (∃ vs, Stk w' base br st lv bv vs) ∧ Ext (base ≤ ·) w w'

set_option maxRecDepth 100000 in
set_option maxHeartbeats 4000000 in
theorem put_any (base br : Nat) (w : World) (f : F) (b : Nat) (st : List (F × Nat)) (lv bv : Value) (vs : List Value) (h : Stk w base br ((f, b) :: st) lv bv vs) (hbase : base ≤ w.heap.size) (hlen : st.length ≤ 4294967296) (hfl : f.len ≤ 4294967296)
    (wd : ByteArray) (kv : Value) (k : F) (r : Bool) (p : Int) (hwd : wd.size ≤ maxLen) (hk : Sl (fun x => Free base br (lv :: bv :: vs) x) w kv k) :
    Calls Tryd.prog 34 #[.pointer (some ⟨br, 0, none⟩), .agg #[.string wd, kv, .bool r, .int .i64 p]] w (PutPost base br w ((f.app (.cons wd r p k .nil), b) :: st) lv bv) := by
  obtain ⟨v, vs', rfl, ⟨xs, hown, hel⟩, hrest⟩ := h.rows.top
  have hvl := hrest.length
  have hlo := h.lown
  obtain ⟨g, cap, rfl⟩ := owns_form hlo (by simp)
  obtain ⟨ka, kcap, rfl, _, _⟩ := hk.shape
  have c0 := h.blk.cell 0
  have c1 := h.blk.cell 1
  simp only [List.getElem?_toArray, List.getElem?_cons_succ, List.getElem?_cons_zero] at c0 c1
  have ce : w.cell? ⟨g, vs'.length, none⟩ = some v := by
    rw [hlo.cellAt _ (by simp)]; simp
  simp only [List.length_cons] at c0 hlo
  have hbr := h.blk.lt
  have hvb := hown.lt
  go_enter Tryd.func34, Tryd.ntmps34
  go_wp2_with fail
  have hx1 := (Ext.refl (fun _ => False) w).alloc (.cells #[.string wd, .slice ka k.len kcap, .bool r, .int .i64 p] 83)
  have hT := Blk.new w #[.string wd, .slice ka k.len kcap, .bool r, .int .i64 p] 83
  have h1 := h.ext hx1
  have hk1 := hk.ext hx1 (fun _ _ h => h)
  generalize w.alloc (.cells #[.string wd, .slice ka k.len kcap, .bool r, .int .i64 p] 83) = w1 at *
  generalize htb : w.heap.size = tb at *
  have htb1 := hT.lt
  go_region
  · have hx2 := ((Ext.refl (fun _ => False) w1).alloc (.cells #[.bool false] 4)).drew
    have h2 := h1.ext hx2
    have hk2 := hk1.ext hx2 (fun _ _ h => h)
    have hT2 := hT.ext hx2 id
    have hx02 := hx1.trans' hx2
    generalize (w1.alloc (.cells #[.bool false] 4)).drew = w2 at *
    clear h1 hk1 hT hx1 hx2
    go_wp2_with fail
    have b0 := h2.blk.cell 0
    simp only [List.getElem?_toArray, List.getElem?_cons_zero, List.length_cons] at b0
    have be : w2.cell? ⟨g, vs'.length, none⟩ = some v := by
      have := h2.lown
      simp only [List.length_cons] at this
      rw [this.cellAt _ (by simp)]; simp
    have nbr : v.ownBlock ≠ some br := h2.abr v (by simp)
    have nlv : v.ownBlock ≠ some g := fun e => by
      have := (List.pairwise_cons.1 h2.apart).1 v (by simp) g rfl
      exact this e
    have ntb : v.ownBlock ≠ some tb := fun e => by have := (hvb tb e).2; omega
    haveI ne : Nonempty (Wd (fun x => Ext (fun c => v.ownBlock = some c) w2 x)) := ⟨⟨w2, Ext.refl _ _⟩⟩
    have q0 : ∀ x : Wd (fun x => Ext (fun c => v.ownBlock = some c) w2 x), x.w.cell? ⟨br, 0, none⟩ = some (.slice (some ⟨g, 0, none⟩) (vs'.length + 1) cap) := fun x => x.ok.cellSome b0 nbr
    have q1 : ∀ x : Wd (fun x => Ext (fun c => v.ownBlock = some c) w2 x), x.w.cell? ⟨g, vs'.length, none⟩ = some v := fun x => x.ok.cellSome be nlv
    have t0 : ∀ x : Wd (fun x => Ext (fun c => v.ownBlock = some c) w2 x), x.w.cell? ⟨tb, 0, none⟩ = some (.string wd) := fun x => x.ok.cellSome (hT2.cell 0) ntb
    have t1 : ∀ x : Wd (fun x => Ext (fun c => v.ownBlock = some c) w2 x), x.w.cell? ⟨tb, 1, none⟩ = some (.slice ka k.len kcap) := fun x => x.ok.cellSome (hT2.cell 1) ntb
    have t2 : ∀ x : Wd (fun x => Ext (fun c => v.ownBlock = some c) w2 x), x.w.cell? ⟨tb, 2, none⟩ = some (.bool r) := fun x => x.ok.cellSome (hT2.cell 2) ntb
    have t3 : ∀ x : Wd (fun x => Ext (fun c => v.ownBlock = some c) w2 x), x.w.cell? ⟨tb, 3, none⟩ = some (.int .i64 p) := fun x => x.ok.cellSome (hT2.cell 3) ntb
    refine wp_region_held (S := fun x => Ext (fun c => v.ownBlock = some c) w2 x) 13 _ (by kernel_rfl) (by kernel_rfl) rfl (by kernel_rfl) (by kernel_rfl) (fun _ d _ _ _ h => by cases d <;> exact h) (Ext.refl _ _).drew ?_
    simp only [List.length_cons, List.length_nil, Nat.reduceAdd, Nat.reduceSub, List.take_succ_cons, List.take_zero, List.drop_succ_cons, List.drop_zero]
    repeat (go_big_quiet_step (fail))
    refine wpQuiet_nil ?_
    have hown2 : w2.drew.ownsRow base 83 4 v f.len xs := owns_ext hown hx02.drew (fun _ _ _ h => h)
    have hx3 := (Ext.refl (fun c => v.ownBlock = some c) w2).drew
    have hsz : base ≤ w2.heap.size := by have := hx02.size; omega
    refine wpTail_step rfl (fun K hK => ?_)
    go_simp
    refine hK _ _ (hx3.alloc _) ?_
    clear hK
    refine wpTail_step rfl (fun K hK => ?_)
    refine wp_append_own2 (.tmp 37) (.tmp 39) 37 rfl base 83 4 56 Tryd.eltRTree v f.len xs rfl (hown2.alloc _) ⟨w2.drew.heap.size, 0, none⟩ 1 1 [.string wd, .slice ka k.len kcap, .bool r, .int .i64 p] rfl rfl (new_cells _ _ _) (fun u hu => List.all_eq_true.1 rfl u hu) (by unfold maxLen; omega) (by omega) (Nat.le_trans hsz (hx3.alloc _).size) ?_
    intro v' w4 hown4 hg4
    have hx4 : Ext (fun c => v.ownBlock = some c) w2 w4 := hg4.ext (hx3.alloc _) (fun _ h _ => h)
    refine hK _ _ hx4 ?_
    clear hK
    refine wpTail_step rfl (fun K hK => ?_)
    go_simp
    rw [if_pos (by omega)]
    go_simp
    refine hK _ _ hx4 ?_
    clear hK
    refine wpTail_nil ?_
    have hlo2 := h2.lown
    simp only [List.length_cons] at hlo2
    have hlo4 := owns_ext hlo2 hx4 (fun c hc _ e => by cases hc; exact nlv e)
    have f4 := hlo4.frozenAt vs'.length
    have c4 : w4.cell? ⟨g, vs'.length, none⟩ = some v := hx4.cellSome be nlv
    obtain ⟨g', cap', rfl⟩ := owns_form hown4 (by omega)
    go_wp2_with fail
    go_end0
    have hx5 : Ext (fun c => v.ownBlock = some c ∨ c = g) w2 (w4.setCell ⟨g, vs'.length, none⟩ (.slice (some ⟨g', 0, none⟩) (f.len + 1) cap')) := (hx4.mono (fun _ _ h => .inl h)).setCell (fun _ => .inr rfl) _
    have hn : ∀ c, (Value.slice (some ⟨g', 0, none⟩) (f.len + 1) cap').ownBlock = some c → v.ownBlock = some c ∨ w2.heap.size ≤ c := fun c hc => (hg4.own c hc).imp id (fun h => Nat.le_trans (hx3.alloc _).size h)
    simp only [List.length_cons] at h2
    have hgg : g' ≠ g := fun e => by
      subst e
      rcases hn g' rfl with e | e
      · exact nlv e
      · have := (h2.lown.lt g' rfl).2; omega
    refine ⟨rfl, ⟨_, Stk.put h2 hx5 ?_ (ownsRow_setCell_other hown4 (by simpa [Value.ownBlock] using hgg) _) hn (hel.ext hx02 (fun _ _ h => h)) (by simpa using hk2) hwd⟩, ?_⟩
    · have := (hlo4.stored vs'.length (.slice (some ⟨g', 0, none⟩) (f.len + 1) cap')).1
      simpa [List.set_append] using this
    · refine (hx02.mono (fun _ _ h => h.elim)).trans hx5 (fun c hc e => ?_)
      rcases e with e | e
      · exact (hvb c e).1
      · rw [e]; exact (h.lown.lt g rfl).1
  · have hx2 := ((Ext.refl (fun _ => False) w1).alloc (.cells #[.bool true] 4)).drew
    have h2 := h1.ext hx2
    have hk2 := hk1.ext hx2 (fun _ _ h => h)
    have hT2 := hT.ext hx2 id
    have hx02 := hx1.trans' hx2
    generalize (w1.alloc (.cells #[.bool true] 4)).drew = w2 at *
    clear h1 hk1 hT hx1 hx2
    go_wp2_with fail
    have b0 := h2.blk.cell 0
    simp only [List.getElem?_toArray, List.getElem?_cons_zero, List.length_cons] at b0
    have be : w2.cell? ⟨g, vs'.length, none⟩ = some v := by
      have := h2.lown
      simp only [List.length_cons] at this
      rw [this.cellAt _ (by simp)]; simp
    have nbr : v.ownBlock ≠ some br := h2.abr v (by simp)
    have nlv : v.ownBlock ≠ some g := fun e => by
      have := (List.pairwise_cons.1 h2.apart).1 v (by simp) g rfl
      exact this e
    have ntb : v.ownBlock ≠ some tb := fun e => by have := (hvb tb e).2; omega
    haveI ne : Nonempty (Wd (fun x => Ext (fun c => v.ownBlock = some c) w2 x)) := ⟨⟨w2, Ext.refl _ _⟩⟩
    have q0 : ∀ x : Wd (fun x => Ext (fun c => v.ownBlock = some c) w2 x), x.w.cell? ⟨br, 0, none⟩ = some (.slice (some ⟨g, 0, none⟩) (vs'.length + 1) cap) := fun x => x.ok.cellSome b0 nbr
    obtain ⟨va, vcap, hv0⟩ := owns_slice hown
    have hv := Lib.hid hv0
    clear hv0
    have q1 : ∀ x : Wd (fun x => Ext (fun c => v.ownBlock = some c) w2 x), x.w.cell? ⟨g, vs'.length, none⟩ = some (.slice va f.len vcap) := fun x => x.ok.cellSome (hv.out ▸ be) nlv
    have t0 : ∀ x : Wd (fun x => Ext (fun c => v.ownBlock = some c) w2 x), x.w.cell? ⟨tb, 0, none⟩ = some (.string wd) := fun x => x.ok.cellSome (hT2.cell 0) ntb
    have t1 : ∀ x : Wd (fun x => Ext (fun c => v.ownBlock = some c) w2 x), x.w.cell? ⟨tb, 1, none⟩ = some (.slice ka k.len kcap) := fun x => x.ok.cellSome (hT2.cell 1) ntb
    have t2 : ∀ x : Wd (fun x => Ext (fun c => v.ownBlock = some c) w2 x), x.w.cell? ⟨tb, 2, none⟩ = some (.bool r) := fun x => x.ok.cellSome (hT2.cell 2) ntb
    have t3 : ∀ x : Wd (fun x => Ext (fun c => v.ownBlock = some c) w2 x), x.w.cell? ⟨tb, 3, none⟩ = some (.int .i64 p) := fun x => x.ok.cellSome (hT2.cell 3) ntb
    refine wp_region_held (S := fun x => Ext (fun c => v.ownBlock = some c) w2 x) 9 _ (by kernel_rfl) (by kernel_rfl) rfl (by kernel_rfl) (by kernel_rfl) (fun _ d _ _ _ h => by cases d <;> exact h) (Ext.refl _ _).drew ?_
    simp only [List.length_cons, List.length_nil, Nat.reduceAdd, Nat.reduceSub, List.take_succ_cons, List.take_zero, List.drop_succ_cons, List.drop_zero]
    repeat (go_big_quiet_step (fail))
    refine wpQuiet_nil ?_
    have hown2 : w2.drew.ownsRow base 83 4 v f.len xs := owns_ext hown hx02.drew (fun _ _ _ h => h)
    have hx3 := (Ext.refl (fun c => v.ownBlock = some c) w2).drew
    have hsz : base ≤ w2.heap.size := by have := hx02.size; omega
    refine wpTail_step rfl (fun K hK => ?_)
    go_simp
    refine hK _ _ (hx3.alloc _) ?_
    clear hK
    refine wpTail_step rfl (fun K hK => ?_)
    refine wp_append_own2 (.tmp 19) (.tmp 22) 37 rfl base 83 4 56 Tryd.eltRTree (.slice va f.len vcap) f.len xs rfl ((hv.out ▸ hown2).alloc _) ⟨w2.drew.heap.size, 0, none⟩ 1 1 [.string ⟨#[]⟩, .slice none 0 0, .bool false, .int .i64 0] rfl rfl (new_cells _ _ _) (fun u hu => List.all_eq_true.1 rfl u hu) (by unfold maxLen; omega) (by omega) (Nat.le_trans hsz (hx3.alloc _).size) ?_
    intro v' w4 hown4 hg4
    rw [← hv.out] at hg4
    have hx4 : Ext (fun c => v.ownBlock = some c) w2 w4 := hg4.ext (hx3.alloc _) (fun _ h _ => h)
    refine hK _ _ hx4 ?_
    clear hK
    refine wpTail_step rfl (fun K hK => ?_)
    go_simp
    rw [if_pos (by omega)]
    go_simp
    refine hK _ _ hx4 ?_
    clear hK
    refine wpTail_nil ?_
    have hlo2 := h2.lown
    simp only [List.length_cons] at hlo2
    have hlo4 := owns_ext hlo2 hx4 (fun c hc _ e => by cases hc; exact nlv e)
    have f4 := hlo4.frozenAt vs'.length
    have c4 : w4.cell? ⟨g, vs'.length, none⟩ = some v := hx4.cellSome be nlv
    obtain ⟨g', cap', rfl⟩ := owns_form hown4 (by omega)
    have hn : ∀ c, (Value.slice (some ⟨g', 0, none⟩) (f.len + 1) cap').ownBlock = some c → v.ownBlock = some c ∨ w2.heap.size ≤ c := fun c hc => (hg4.own c hc).imp id (fun h => Nat.le_trans (hx3.alloc _).size h)
    have hgg : g' ≠ g := fun e => by
      subst e
      rcases hn g' rfl with e | e
      · exact nlv e
      · have := (h2.lown.lt g' rfl).2; omega
    have hgg' : g ≠ g' := fun e => hgg e.symm
    have hxl := hown.1
    have e0 : w4.cell? ⟨g', f.len * 4, none⟩ = some (.string ⟨#[]⟩) := by rw [hown4.cellAt _ (by omega)]; simp [hxl]
    have e1 : w4.cell? ⟨g', f.len * 4 + 1, none⟩ = some (.slice none 0 0) := by rw [hown4.cellAt _ (by omega)]; simp [hxl]
    have e2 : w4.cell? ⟨g', f.len * 4 + 2, none⟩ = some (.bool false) := by rw [hown4.cellAt _ (by omega)]; simp [hxl]
    have e3 : w4.cell? ⟨g', f.len * 4 + 3, none⟩ = some (.int .i64 0) := by rw [hown4.cellAt _ (by omega)]; simp [hxl]
    have z0 := hown4.frozenAt (f.len * 4)
    have z1 := hown4.frozenAt (f.len * 4 + 1)
    have z2 := hown4.frozenAt (f.len * 4 + 2)
    have z3 := hown4.frozenAt (f.len * 4 + 3)
    have NLV := Lib.hid nlv
    clear q0 q1 t0 t1 t2 t3 nlv
    go_wp2_with fail
    go_end0
    have hm : g' < w2.heap.size → (v.ownBlock = some g' ∨ g' = g) := fun hlt => (hn g' rfl).elim .inl (fun h => absurd h (by omega))
    have hx5 : Ext (fun c => v.ownBlock = some c ∨ c = g) w2 (w4.setCell ⟨g, vs'.length, none⟩ (.slice (some ⟨g', 0, none⟩) (f.len + 1) cap')) := (hx4.mono (fun _ _ h => .inl h)).setCell (fun _ => .inr rfl) _
    have hx6 := (((hx5.setCell (p := ⟨g', f.len * 4, none⟩) hm (.string wd)).setCell (p := ⟨g', f.len * 4 + 1, none⟩) hm (.slice ka k.len kcap)).setCell (p := ⟨g', f.len * 4 + 2, none⟩) hm (.bool r)).setCell (p := ⟨g', f.len * 4 + 3, none⟩) hm (.int .i64 p)
    have hl5 := (hlo4.stored vs'.length (.slice (some ⟨g', 0, none⟩) (f.len + 1) cap')).1
    have hl6 := ownsRow_setCell_other (ownsRow_setCell_other (ownsRow_setCell_other (ownsRow_setCell_other hl5 (a := ⟨g', f.len * 4, none⟩) (by simpa [Value.ownBlock] using hgg') (.string wd)) (a := ⟨g', f.len * 4 + 1, none⟩) (by simpa [Value.ownBlock] using hgg') (.slice ka k.len kcap)) (a := ⟨g', f.len * 4 + 2, none⟩) (by simpa [Value.ownBlock] using hgg') (.bool r)) (a := ⟨g', f.len * 4 + 3, none⟩) (by simpa [Value.ownBlock] using hgg') (.int .i64 p)
    have ho5 := ownsRow_setCell_other hown4 (a := ⟨g, vs'.length, none⟩) (by simpa [Value.ownBlock] using hgg) (.slice (some ⟨g', 0, none⟩) (f.len + 1) cap')
    have ho6 := ((((((ho5.stored (f.len * 4) (.string wd)).1).stored (f.len * 4 + 1) (.slice ka k.len kcap)).1).stored (f.len * 4 + 2) (.bool r)).1.stored (f.len * 4 + 3) (.int .i64 p)).1
    simp only [List.length_cons] at h2
    refine ⟨rfl, ⟨_, Stk.put h2 hx6 ?_ (xs := xs) ?_ hn (hel.ext hx02 (fun _ _ h => h)) (by simpa using hk2) hwd⟩, ?_⟩
    · simpa [List.set_append] using hl6
    · have hlist : (((((xs ++ [Value.string ⟨#[]⟩, .slice none 0 0, .bool false, .int .i64 0]).set (f.len * 4) (.string wd)).set (f.len * 4 + 1) (.slice ka k.len kcap)).set (f.len * 4 + 2) (.bool r)).set (f.len * 4 + 3) (.int .i64 p)) = xs ++ [.string wd, .slice ka k.len kcap, .bool r, .int .i64 p] := by
        rw [← hxl]; simp
      rw [hlist] at ho6
      exact ho6
    · refine (hx02.mono (fun _ _ h => h.elim)).trans hx6 (fun c hc e => ?_)
      rcases e with e | e
      · exact (hvb c e).1
      · rw [e]; exact (h.lown.lt g rfl).1

end Go.Proofs.YthiaikbdghmnbaaDoor
