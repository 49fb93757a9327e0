/- Walk: (*rows).close of the reference. -/
import Derived.Test.YthiaikbdghmnbaaDoorRefPut
import Derived.WalkSmall
namespace Go.Proofs.YthiaikbdghmnbaaDoor
open Go.RowKit

/-- Both slices cut by their last element: the row that was open is held. -/
theorem Stk.pop {w w' : World} {base br g gb cap capb : Nat} {f f1 : F} {b b1 : Nat} {st : List (F × Nat)} {v v1 : Value} {vs : List Value}
    (h : Stk w base br ((f, b) :: (f1, b1) :: st) (.slice (some ⟨g, 0, none⟩) (vs.length + 2) cap) (.slice (some ⟨gb, 0, none⟩) (st.length + 2) capb) (v :: v1 :: vs)) (hx : Ext (· = br) w w')
    (hb : Blk w' br #[.slice (some ⟨g, 0, none⟩) (vs.length + 1) cap, .slice (some ⟨gb, 0, none⟩) (st.length + 1) capb] 79) :
    Stk w' base br ((f1, b1) :: st) (.slice (some ⟨g, 0, none⟩) (vs.length + 1) cap) (.slice (some ⟨gb, 0, none⟩) (st.length + 1) capb) (v1 :: vs) ∧
    Sl (Free base br (.slice (some ⟨g, 0, none⟩) (vs.length + 1) cap :: .slice (some ⟨gb, 0, none⟩) (st.length + 1) capb :: v1 :: vs)) w' v f := by
  have abr := h.abr
  have ap := h.apart
  simp only [List.pairwise_cons] at ap
  obtain ⟨ap1, ap2, ap3, ap4, ap5⟩ := ap
  obtain ⟨⟨xs, hown, hel⟩, hrest⟩ := h.rows
  have hgb : g ≠ br := fun e => abr (.slice (some ⟨g, 0, none⟩) (vs.length + 2) cap) (by simp) (by simp [Value.ownBlock, e])
  have hbb : gb ≠ br := fun e => abr (.slice (some ⟨gb, 0, none⟩) (st.length + 2) capb) (by simp) (by simp [Value.ownBlock, e])
  have hD : ∀ c, Free base br (.slice (some ⟨g, 0, none⟩) (vs.length + 2) cap :: .slice (some ⟨gb, 0, none⟩) (st.length + 2) capb :: v :: v1 :: vs) c → c < w.heap.size → ¬ c = br := fun c hc _ => hc.2.1
  have hD' : ∀ c, Free base br (.slice (some ⟨g, 0, none⟩) (vs.length + 2) cap :: .slice (some ⟨gb, 0, none⟩) (st.length + 2) capb :: v :: v1 :: vs) c → c < w.heap.size → Free base br (.slice (some ⟨g, 0, none⟩) (vs.length + 1) cap :: .slice (some ⟨gb, 0, none⟩) (st.length + 1) capb :: v1 :: vs) c := fun c hc _ => by
    refine ⟨hc.1, hc.2.1, fun o ho => ?_⟩
    simp only [List.mem_cons] at ho
    rcases ho with rfl | rfl | ho
    · exact hc.2.2 (.slice (some ⟨g, 0, none⟩) (vs.length + 2) cap) (by simp)
    · exact hc.2.2 (.slice (some ⟨gb, 0, none⟩) (st.length + 2) capb) (by simp)
    · exact hc.2.2 o (by simp only [List.mem_cons]; exact .inr (.inr (.inr ho)))
  refine ⟨⟨hb, h.bbr, ?_, ?_, ?_, ?_, ?_⟩, ?_⟩
  · refine ownsRow_pop (last := [v]) (by simp) ?_
    have := owns_ext h.lown hx (fun c hc _ e => by cases hc; exact hgb e)
    simpa using this
  · refine ownsRow_pop (last := [Value.int .i64 b]) (by simp) ?_
    have := owns_ext h.bown hx (fun c hc _ e => by cases hc; exact hbb e)
    simpa using this
  · exact RowsOK.move hx hD hD' (fun u hu c hc e => abr u (by simp only [List.mem_cons] at hu ⊢; exact .inr (.inr (.inr hu))) (by rw [hc, e])) hrest
  · simp only [List.pairwise_cons]
    refine ⟨fun u hu c hc => ?_, fun u hu c hc => ?_, ap4, ap5⟩
    · simp only [List.mem_cons] at hu
      rcases hu with rfl | hu
      · exact ap1 (.slice (some ⟨gb, 0, none⟩) (st.length + 2) capb) (by simp) c hc
      · exact ap1 u (by simp only [List.mem_cons]; exact .inr (.inr hu)) c hc
    · exact ap2 u (by simp only [List.mem_cons] at hu ⊢; exact .inr hu) c hc
  · intro x hx'
    simp only [List.mem_cons] at hx'
    rcases hx' with rfl | rfl | hx'
    · exact abr (.slice (some ⟨g, 0, none⟩) (vs.length + 2) cap) (by simp)
    · exact abr (.slice (some ⟨gb, 0, none⟩) (st.length + 2) capb) (by simp)
    · exact abr x (by simp only [List.mem_cons]; exact .inr (.inr (.inr hx')))
  · have hs := sl_of_owns hown hel
    refine hs.move (fun c hc hlt => hx.block c hlt ?_) (fun c hc hlt => ?_)
    · rcases hc with hc | hc
      · exact hD c hc hlt
      · exact fun e => abr v (by simp) (by rw [hc.1, e])
    · rcases hc with hc | hc
      · exact hD' c hc hlt
      · refine ⟨hc.2, fun e => abr v (by simp) (by rw [hc.1, e]), fun o ho e => ?_⟩
        simp only [List.mem_cons] at ho
        rcases ho with rfl | rfl | ho
        · exact ap1 v (by simp) c e hc.1
        · exact ap2 v (by simp) c e hc.1
        · exact ap3 o (by simp only [List.mem_cons]; exact ho) c hc.1 e

/-- What close leaves: the row that was open stands as a tree behind the one below it. -/
def ClosePost (base br : Nat) (w : World) (st : List (F × Nat)) (e : Ending) (w' : World) : Prop :=
  e = .returned (.tuple #[]) ∧ (∃ lv bv vs, Stk w' base br st lv bv vs) ∧ Ext (base ≤ ·) w w'

set_option maxRecDepth 100000 in
set_option maxHeartbeats 4000000 in
theorem close_any (base br : Nat) (w : World) (f f1 : F) (b b1 : Nat) (st : List (F × Nat)) (lv bv : Value) (vs : List Value) (h : Stk w base br ((f, b) :: (f1, b1) :: st) lv bv vs) (hbase : base ≤ w.heap.size) (hlen : st.length ≤ 4294967290) (hfl : f1.len ≤ 4294967296) :
    Calls Tryd.prog 32 #[.pointer (some ⟨br, 0, none⟩)] w (ClosePost base br w ((f1.app (.cons ByteArray.empty true b f .nil), b1) :: st)) := by
  obtain ⟨v, vs1, rfl, ⟨xs, hown, hel⟩, hrest⟩ := h.rows.top
  obtain ⟨v1, vs', rfl, ⟨xs1, hown1, hel1⟩, hrest1⟩ := hrest.top
  have hvl := hrest1.length
  obtain ⟨g, cap, rfl⟩ := owns_form h.lown (by simp)
  obtain ⟨gb, capb, rfl⟩ := owns_form h.bown (by simp)
  have hlo := h.lown
  have hbo := h.bown
  simp only [List.length_cons] at h hlo hbo
  have ce : w.cell? ⟨g, vs'.length + 1, none⟩ = some v := by rw [hlo.cellAt _ (by omega)]; simp
  have cb : w.cell? ⟨gb, vs'.length + 1, none⟩ = some (.int .i64 b) := by rw [hbo.cellAt _ (by omega)]; simp [← hvl]
  have c0 := h.blk.cell 0
  have c1 := h.blk.cell 1
  simp only [List.getElem?_toArray, List.getElem?_cons_succ, List.getElem?_cons_zero] at c0 c1
  have hbr := h.blk.lt
  have hcap : vs'.length + 2 ≤ cap := by
    obtain ⟨_, h2⟩ := hlo
    rcases h2 with ⟨h0, _⟩ | ⟨_, _, _, hv, _, _, hn, _⟩
    · cases h0
    · cases hv; exact hn
  have hcapb : st.length + 2 ≤ capb := by
    obtain ⟨_, h2⟩ := hbo
    rcases h2 with ⟨h0, _⟩ | ⟨_, _, _, hv, _, _, hn, _⟩
    · cases h0
    · cases hv; exact hn
  obtain ⟨va, vcap, rfl⟩ := owns_slice hown
  rw [hvl] at h c1 hbo hcapb
  go_enter Tryd.func32, Tryd.ntmps32
  go_wp2_with fail
  haveI ne : Nonempty (Wd (fun x => Ext (fun _ => False) w x)) := ⟨⟨w, Ext.refl _ _⟩⟩
  have q0 : ∀ x : Wd (fun x => Ext (fun _ => False) w x), x.w.cell? ⟨br, 0, none⟩ = some (.slice (some ⟨g, 0, none⟩) (vs'.length + 1 + 1) cap) := fun x => x.ok.cellSome c0 id
  have q1 : ∀ x : Wd (fun x => Ext (fun _ => False) w x), x.w.cell? ⟨br, 1, none⟩ = some (.slice (some ⟨gb, 0, none⟩) (vs'.length + 1 + 1) capb) := fun x => x.ok.cellSome c1 id
  have q2 : ∀ x : Wd (fun x => Ext (fun _ => False) w x), x.w.cell? ⟨g, vs'.length + 1, none⟩ = some (.slice va f.len vcap) := fun x => x.ok.cellSome ce id
  have q3 : ∀ x : Wd (fun x => Ext (fun _ => False) w x), x.w.cell? ⟨gb, vs'.length + 1, none⟩ = some (.int .i64 b) := fun x => x.ok.cellSome cb id
  have i0 : (0 : Int) ≤ (vs'.length : Int) + 1 := by omega
  have i1 : (vs'.length : Int) + 1 < (vs'.length : Int) + 1 + 1 := by omega
  refine wp_region_held (S := fun x => Ext (fun _ => False) w x) 15 _ (by kernel_rfl) (by kernel_rfl) rfl (by kernel_rfl) (by kernel_rfl) (fun _ d _ _ _ h => by cases d <;> exact h) (Ext.refl _ _).drew ?_
  simp only [List.length_cons, List.length_nil, Nat.reduceAdd, Nat.reduceSub, List.take_succ_cons, List.take_zero, List.drop_succ_cons, List.drop_zero]
  repeat (go_big_quiet_step (fail))
  refine wpQuiet_nil ?_
  have hx3 := (Ext.refl (fun _ => False) w).drew
  refine wpTail_step rfl (fun K hK => ?_)
  go_simp
  refine hK _ _ (hx3.alloc _) ?_
  clear hK
  refine wpTail_nil ?_
  clear q0 q1 q2 q3
  have z0 := h.blk.frozen 0
  have z1 := h.blk.frozen 1
  go_wp2_with fail
  have hb5 : Blk (((w.setCell ⟨br, 0, none⟩ (.slice (some ⟨g, 0, none⟩) (vs'.length + 1) cap)).setCell ⟨br, 1, none⟩ (.slice (some ⟨gb, 0, none⟩) (vs'.length + 1) capb)).alloc (.cells #[.string ⟨#[]⟩, .slice va f.len vcap, .bool true, .int .i64 b] 83)).drew br #[.slice (some ⟨g, 0, none⟩) (vs'.length + 1) cap, .slice (some ⟨gb, 0, none⟩) (vs'.length + 1) capb] 79 :=
    ((((h.blk.set 0 (.slice (some ⟨g, 0, none⟩) (vs'.length + 1) cap)).set 1 (.slice (some ⟨gb, 0, none⟩) (vs'.length + 1) capb)).alloc (.cells #[.string ⟨#[]⟩, .slice va f.len vcap, .bool true, .int .i64 b] 83)).drew)
  have hx5 := ((((Ext.refl (· = br) w).setCell (p := ⟨br, 0, none⟩) (fun _ => rfl) (.slice (some ⟨g, 0, none⟩) (vs'.length + 1) cap)).setCell (p := ⟨br, 1, none⟩) (fun _ => rfl) (.slice (some ⟨gb, 0, none⟩) (vs'.length + 1) capb)).alloc (.cells #[.string ⟨#[]⟩, .slice va f.len vcap, .bool true, .int .i64 b] 83)).drew
  have hpop := Stk.pop (by rw [hvl]; exact h) hx5 (by rw [hvl]; exact hb5)
  rw [hvl] at hpop
  generalize (((w.setCell ⟨br, 0, none⟩ (.slice (some ⟨g, 0, none⟩) (vs'.length + 1) cap)).setCell ⟨br, 1, none⟩ (.slice (some ⟨gb, 0, none⟩) (vs'.length + 1) capb)).alloc (.cells #[.string ⟨#[]⟩, .slice va f.len vcap, .bool true, .int .i64 b] 83)).drew = w5 at *
  refine (put_any base br w5 f1 b1 st _ _ (v1 :: vs') hpop.1 (Nat.le_trans hbase hx5.size) (by omega) hfl ⟨#[]⟩ (.slice va f.len vcap) f true b (by decide) hpop.2).mono ?_
  rintro e w6 ⟨rfl, ⟨vs6, h6⟩, hx6⟩
  have hx06 : Ext (base ≤ ·) w w6 := (hx5.mono (fun c _ hc => by rw [hc]; exact h.bbr)).trans' hx6
  clear hpop hx5 hx6 hb5
  go_wp2_with fail
  go_end0
  exact ⟨rfl, ⟨_, _, vs6, h6⟩, hx06⟩

end Go.Proofs.YthiaikbdghmnbaaDoor
