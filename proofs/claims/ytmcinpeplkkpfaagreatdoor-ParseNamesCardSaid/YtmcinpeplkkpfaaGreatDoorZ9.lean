/- Texts put together by wip/shake.py: PInto, PParts, LexF, PRestW: the walks and the laws that the claim's last theorem rests on. -/
import Derived.Test.YtmcinpeplkkpfaaGreatDoorZ8
import Derived.Deep.LoopGhost
import Derived.Test.YtmcinpeplkkpfaaGreatDoorZ7
namespace Go.Proofs.YtmcinpeplkkpfaaGreatDoor
open Go.RowKit
set_option linter.unusedVariables false
theorem intoStr_mk (pv : Value) (fv : Value) (w : World) (hp : ∃ a, pv = .pointer a) (hf : ∃ f, fv = .func f #[] #[]) :
    Calls Tryz.prog 44 #[pv, fv] w fun e w' => ∃ br bt, e = .returned (.func (.func 92) #[] #[.pointer (some ⟨br, 0, none⟩), .pointer (some ⟨bt, 0, none⟩)]) ∧ Ext (fun _ => False) w w' ∧
      (∃ t, Blk w' br #[fv] t) ∧ (∃ t, Blk w' bt #[pv] t) ∧ w.heap.size ≤ br ∧ w.heap.size ≤ bt := by
  obtain ⟨a, rfl⟩ := hp
  obtain ⟨f, rfl⟩ := hf
  have hmf : ∀ (fn : Fn) (first cap : Array Value) (w : World), (Instr.makeFunc fn first cap).run Tryz.prog w = .ok (.func fn first cap) w := fun _ _ _ _ => rfl
  go_enter Tryz.func44, Tryz.ntmps44
  go_wp2_with fail
  go_ret
  refine ⟨_, _, rfl, ((Ext.refl _ _).alloc _).alloc _, ⟨_, by have := Blk.new (w.alloc (.cells #[.pointer a] 105)) #[.func f #[] #[]] 106; simpa using this⟩, ⟨_, (Blk.new w #[.pointer a] 105).alloc _⟩, by simp, Nat.le_refl _⟩

set_option maxRecDepth 100000 in
set_option maxHeartbeats 800000 in
theorem intoStr_run (g : Nat) {α : Type} (enc : α → U) (res : RR α) (wd : ByteArray) (kv : Value) (r : Bool) (p : Int) (fb br bt tb off : Nat) (tt tr t2 : TypeId) (cs : Array Value) (w : World)
    (hR : Blk w br #[.func (.func g) #[] #[]] tr) (hB : Blk w bt #[.pointer (some ⟨tb, off, none⟩)] t2) (hT : Blk w tb cs tt) (hoff : off + 1 ≤ cs.size) (h1 : br ≠ fb) (h2 : bt ≠ fb) (h3 : tb ≠ fb) (hfl : fb < w.heap.size) (hkv : kv.oneCell' = true) (hent : ∀ args w, (callFunc g args).run Tryz.prog w = .ok (.enter g args) w)
    (hread : ∀ w1, Ext (fun _ => False) w w1 → Calls Tryz.prog g #[nodeV wd kv r p fb] w1 (RdPost fb shpStr mkOne enc res w1)) :
    Calls Tryz.prog 92 #[nodeV wd kv r p fb, .pointer (some ⟨br, 0, none⟩), .pointer (some ⟨bt, 0, none⟩)] w (IntoPost fb tb tt cs off shpStr enc res w) := by
  have hN := NodeIn.new w wd kv r p fb
  have hx1 := (Ext.refl (fun _ => False) w).alloc (.cells #[.string wd, kv, .bool r, .int .i64 p, .pointer (some ⟨fb, 0, none⟩)] 57)
  have hR1 := hR.alloc (.cells #[.string wd, kv, .bool r, .int .i64 p, .pointer (some ⟨fb, 0, none⟩)] 57)
  have hB1 := hB.alloc (.cells #[.string wd, kv, .bool r, .int .i64 p, .pointer (some ⟨fb, 0, none⟩)] 57)
  have hT1 := hT.alloc (.cells #[.string wd, kv, .bool r, .int .i64 p, .pointer (some ⟨fb, 0, none⟩)] 57)
  have hlt := hT.lt
  have hlr := hR.lt
  have hlb := hB.lt
  unfold nodeV at *
  go_enter Tryz.func92, Tryz.ntmps92
  go_wp2_with fail
  generalize w.alloc (.cells #[.string wd, kv, .bool r, .int .i64 p, .pointer (some ⟨fb, 0, none⟩)] 57) = w1 at *
  generalize hnbe : w.heap.size = nb at *
  have HN := Lib.hid hnbe
  clear hnbe
  haveI ne : Nonempty (Wd (fun x => Ext (· = fb) w1 x)) := ⟨⟨w1, Ext.refl _ _⟩⟩
  have q0 : ∀ x : Wd (fun x => Ext (· = fb) w1 x), x.w.cell? ⟨br, 0, none⟩ = some (.func (.func g) #[] #[]) := fun x => x.ok.cellSome (hR1.cell 0) h1
  have q1 : ∀ x : Wd (fun x => Ext (· = fb) w1 x), x.w.cell? ⟨bt, 0, none⟩ = some (.pointer (some ⟨tb, off, none⟩)) := fun x => x.ok.cellSome (hB1.cell 0) h2
  have hnb : ¬ nb = fb := by omega
  have q2 : ∀ x : Wd (fun x => Ext (· = fb) w1 x), x.w.cell? ⟨nb, 0, none⟩ = some (.string wd) := fun x => x.ok.cellSome hN.cells.1 hnb
  have q3 : ∀ x : Wd (fun x => Ext (· = fb) w1 x), x.w.cell? ⟨nb, 1, none⟩ = some kv := fun x => x.ok.cellSome hN.cells.2.1 hnb
  have q4 : ∀ x : Wd (fun x => Ext (· = fb) w1 x), x.w.cell? ⟨nb, 2, none⟩ = some (.bool r) := fun x => x.ok.cellSome hN.cells.2.2.1 hnb
  have q5 : ∀ x : Wd (fun x => Ext (· = fb) w1 x), x.w.cell? ⟨nb, 3, none⟩ = some (.int .i64 p) := fun x => x.ok.cellSome hN.cells.2.2.2.1 hnb
  have q6 : ∀ x : Wd (fun x => Ext (· = fb) w1 x), x.w.cell? ⟨nb, 4, none⟩ = some (.pointer (some ⟨fb, 0, none⟩)) := fun x => x.ok.cellSome hN.cells.2.2.2.2 hnb
  refine wp_region_steps (S := fun x => Ext (· = fb) w1 x) [([0, 1, 2], [3]), ([4], [])] _ (by kernel_rfl) (by kernel_rfl) rfl (by kernel_rfl) (fun _ d _ _ _ h => by cases d <;> exact h) (Ext.refl _ _).drew ?_
  simp only [segOps, List.filterMap_cons, List.filterMap_nil, List.getElem?_cons_zero, List.getElem?_cons_succ]
  refine wpSegs_cons ?_
  change wpQuiet _ _ _ _ (_ :: _ :: _ :: []) _
  repeat (go_big_quiet_step (fail))
  refine wpQuiet_nil ?_
  refine wpLoud_step rfl (fun K hK => ?_)
  go_simp
  refine (hread _ hx1.drew).mono ?_
  rintro e w2 ⟨hx2, xs, rfl, hsh, hres⟩
  have hx2' : Ext (· = fb) w1 w2 := ⟨hx2.os, hx2.tape, hx2.output, hx2.size, hx2.block⟩
  refine hK _ _ hx2' ?_
  clear hK hx2
  obtain ⟨s0, rfl⟩ := hsh
  simp only [mkOne] at *
  refine wpLoud_nil ?_
  refine wpSegs_cons ?_
  change wpQuiet _ _ _ _ (_ :: []) _
  repeat (go_big_quiet_step (fail))
  refine wpQuiet_nil ?_
  refine wpLoud_nil ?_
  refine wpSegs_nil ?_
  have hT2 := hT1.ext hx2' h3
  have g0 := hT2.cell off
  have f0 := hT2.frozen off
  rw [Array.getElem?_eq_getElem (by omega)] at g0
  clear q0 q1 q2 q3 q4 q5 q6 ne
  go_wp2_with fail
  go_end0
  have hx3 : Ext (fun b => b = fb ∨ b = tb) w w2 := (hx1.mono (M' := fun b => b = fb ∨ b = tb) (fun _ _ h => h.elim)).trans hx2' (fun _ _ h => .inl h)
  have hn1 := hx1.size
  have htf : (tb : Nat) ≠ fb := h3
  refine ⟨rfl, (hx3.setCell (p := ⟨tb, off, none⟩) (fun _ => .inr rfl) (.string s0)), [(.string s0)], ⟨_, rfl⟩, (hT2.set (off) (.string s0)), ?_⟩
  cases res with
  | error q => exact ((show Fst w2 fb true q from hres).setOther ⟨tb, off, none⟩ htf (.string s0))
  | ok a =>
    obtain ⟨hF2, hr2⟩ := hres
    have hr2 := hr2.mono (D' := fun b => w.heap.size ≤ b) (fun b hb _ => by have : w1.heap.size ≤ b := hb; have := HN.out; omega)
    have htn : ¬ w.heap.size ≤ tb := by have := HN.out; omega
    exact ⟨(hF2.setOther ⟨tb, off, none⟩ htf (.string s0)), (hr2.setOther ⟨tb, off, none⟩ htn (.string s0))⟩

theorem intoTm_mk (pv : Value) (fv : Value) (w : World) (hp : ∃ a, pv = .pointer a) (hf : ∃ f, fv = .func f #[] #[]) :
    Calls Tryz.prog 47 #[pv, fv] w fun e w' => ∃ br bt, e = .returned (.func (.func 96) #[] #[.pointer (some ⟨br, 0, none⟩), .pointer (some ⟨bt, 0, none⟩)]) ∧ Ext (fun _ => False) w w' ∧
      (∃ t, Blk w' br #[fv] t) ∧ (∃ t, Blk w' bt #[pv] t) ∧ w.heap.size ≤ br ∧ w.heap.size ≤ bt := by
  obtain ⟨a, rfl⟩ := hp
  obtain ⟨f, rfl⟩ := hf
  have hmf : ∀ (fn : Fn) (first cap : Array Value) (w : World), (Instr.makeFunc fn first cap).run Tryz.prog w = .ok (.func fn first cap) w := fun _ _ _ _ => rfl
  go_enter Tryz.func47, Tryz.ntmps47
  go_wp2_with fail
  go_ret
  refine ⟨_, _, rfl, ((Ext.refl _ _).alloc _).alloc _, ⟨_, by have := Blk.new (w.alloc (.cells #[.pointer a] 112)) #[.func f #[] #[]] 113; simpa using this⟩, ⟨_, (Blk.new w #[.pointer a] 112).alloc _⟩, by simp, Nat.le_refl _⟩

set_option maxRecDepth 100000 in
set_option maxHeartbeats 800000 in
theorem intoTm_run (g : Nat) {α : Type} (enc : α → U) (res : RR α) (wd : ByteArray) (kv : Value) (r : Bool) (p : Int) (fb br bt tb off : Nat) (tt tr t2 : TypeId) (cs : Array Value) (w : World)
    (hR : Blk w br #[.func (.func g) #[] #[]] tr) (hB : Blk w bt #[.pointer (some ⟨tb, off, none⟩)] t2) (hT : Blk w tb cs tt) (hoff : off + 5 ≤ cs.size) (h1 : br ≠ fb) (h2 : bt ≠ fb) (h3 : tb ≠ fb) (hfl : fb < w.heap.size) (hkv : kv.oneCell' = true) (hent : ∀ args w, (callFunc g args).run Tryz.prog w = .ok (.enter g args) w)
    (hread : ∀ w1, Ext (fun _ => False) w w1 → Calls Tryz.prog g #[nodeV wd kv r p fb] w1 (RdPost fb (shpN 5) mkAgg enc res w1)) :
    Calls Tryz.prog 96 #[nodeV wd kv r p fb, .pointer (some ⟨br, 0, none⟩), .pointer (some ⟨bt, 0, none⟩)] w (IntoPost fb tb tt cs off (shpN 5) enc res w) := by
  have hN := NodeIn.new w wd kv r p fb
  have hx1 := (Ext.refl (fun _ => False) w).alloc (.cells #[.string wd, kv, .bool r, .int .i64 p, .pointer (some ⟨fb, 0, none⟩)] 57)
  have hR1 := hR.alloc (.cells #[.string wd, kv, .bool r, .int .i64 p, .pointer (some ⟨fb, 0, none⟩)] 57)
  have hB1 := hB.alloc (.cells #[.string wd, kv, .bool r, .int .i64 p, .pointer (some ⟨fb, 0, none⟩)] 57)
  have hT1 := hT.alloc (.cells #[.string wd, kv, .bool r, .int .i64 p, .pointer (some ⟨fb, 0, none⟩)] 57)
  have hlt := hT.lt
  have hlr := hR.lt
  have hlb := hB.lt
  unfold nodeV at *
  go_enter Tryz.func96, Tryz.ntmps96
  go_wp2_with fail
  generalize w.alloc (.cells #[.string wd, kv, .bool r, .int .i64 p, .pointer (some ⟨fb, 0, none⟩)] 57) = w1 at *
  generalize hnbe : w.heap.size = nb at *
  have HN := Lib.hid hnbe
  clear hnbe
  haveI ne : Nonempty (Wd (fun x => Ext (· = fb) w1 x)) := ⟨⟨w1, Ext.refl _ _⟩⟩
  have q0 : ∀ x : Wd (fun x => Ext (· = fb) w1 x), x.w.cell? ⟨br, 0, none⟩ = some (.func (.func g) #[] #[]) := fun x => x.ok.cellSome (hR1.cell 0) h1
  have q1 : ∀ x : Wd (fun x => Ext (· = fb) w1 x), x.w.cell? ⟨bt, 0, none⟩ = some (.pointer (some ⟨tb, off, none⟩)) := fun x => x.ok.cellSome (hB1.cell 0) h2
  have hnb : ¬ nb = fb := by omega
  have q2 : ∀ x : Wd (fun x => Ext (· = fb) w1 x), x.w.cell? ⟨nb, 0, none⟩ = some (.string wd) := fun x => x.ok.cellSome hN.cells.1 hnb
  have q3 : ∀ x : Wd (fun x => Ext (· = fb) w1 x), x.w.cell? ⟨nb, 1, none⟩ = some kv := fun x => x.ok.cellSome hN.cells.2.1 hnb
  have q4 : ∀ x : Wd (fun x => Ext (· = fb) w1 x), x.w.cell? ⟨nb, 2, none⟩ = some (.bool r) := fun x => x.ok.cellSome hN.cells.2.2.1 hnb
  have q5 : ∀ x : Wd (fun x => Ext (· = fb) w1 x), x.w.cell? ⟨nb, 3, none⟩ = some (.int .i64 p) := fun x => x.ok.cellSome hN.cells.2.2.2.1 hnb
  have q6 : ∀ x : Wd (fun x => Ext (· = fb) w1 x), x.w.cell? ⟨nb, 4, none⟩ = some (.pointer (some ⟨fb, 0, none⟩)) := fun x => x.ok.cellSome hN.cells.2.2.2.2 hnb
  refine wp_region_steps (S := fun x => Ext (· = fb) w1 x) [([0, 1, 2], [3]), ([4], [])] _ (by kernel_rfl) (by kernel_rfl) rfl (by kernel_rfl) (fun _ d _ _ _ h => by cases d <;> exact h) (Ext.refl _ _).drew ?_
  simp only [segOps, List.filterMap_cons, List.filterMap_nil, List.getElem?_cons_zero, List.getElem?_cons_succ]
  refine wpSegs_cons ?_
  change wpQuiet _ _ _ _ (_ :: _ :: _ :: []) _
  repeat (go_big_quiet_step (fail))
  refine wpQuiet_nil ?_
  refine wpLoud_step rfl (fun K hK => ?_)
  go_simp
  refine (hread _ hx1.drew).mono ?_
  rintro e w2 ⟨hx2, xs, rfl, hsh, hres⟩
  have hx2' : Ext (· = fb) w1 w2 := ⟨hx2.os, hx2.tape, hx2.output, hx2.size, hx2.block⟩
  refine hK _ _ hx2' ?_
  clear hK hx2
  have hsh0 := hsh
  obtain ⟨x0, x1, x2, x3, x4, rfl, o0, o1, o2, o3, o4⟩ := len5 hsh
  simp only [mkAgg] at *
  refine wpLoud_nil ?_
  refine wpSegs_cons ?_
  change wpQuiet _ _ _ _ (_ :: []) _
  repeat (go_big_quiet_step (fail))
  refine wpQuiet_nil ?_
  refine wpLoud_nil ?_
  refine wpSegs_nil ?_
  have hT2 := hT1.ext hx2' h3
  have st0 := store_ok (P := Tryz.prog) hT2 (off) x0 (by first | omega | (simp; omega)) o0
  have st1 := store_ok (P := Tryz.prog) (hT2.set (off) x0) (off + 1) x1 (by first | omega | (simp; omega)) o1
  have st2 := store_ok (P := Tryz.prog) ((hT2.set (off) x0).set (off + 1) x1) (off + 2) x2 (by first | omega | (simp; omega)) o2
  have st3 := store_ok (P := Tryz.prog) (((hT2.set (off) x0).set (off + 1) x1).set (off + 2) x2) (off + 3) x3 (by first | omega | (simp; omega)) o3
  have st4 := store_ok (P := Tryz.prog) ((((hT2.set (off) x0).set (off + 1) x1).set (off + 2) x2).set (off + 3) x3) (off + 4) x4 (by first | omega | (simp; omega)) o4
  clear q0 q1 q2 q3 q4 q5 q6 ne
  go_wp2_with fail
  go_end0
  have hx3 : Ext (fun b => b = fb ∨ b = tb) w w2 := (hx1.mono (M' := fun b => b = fb ∨ b = tb) (fun _ _ h => h.elim)).trans hx2' (fun _ _ h => .inl h)
  have hn1 := hx1.size
  have htf : (tb : Nat) ≠ fb := h3
  refine ⟨rfl, (((((hx3.setCell (p := ⟨tb, off, none⟩) (fun _ => .inr rfl) x0).setCell (p := ⟨tb, off + 1, none⟩) (fun _ => .inr rfl) x1).setCell (p := ⟨tb, off + 2, none⟩) (fun _ => .inr rfl) x2).setCell (p := ⟨tb, off + 3, none⟩) (fun _ => .inr rfl) x3).setCell (p := ⟨tb, off + 4, none⟩) (fun _ => .inr rfl) x4), [x0, x1, x2, x3, x4], hsh0, (((((hT2.set (off) x0).set (off + 1) x1).set (off + 2) x2).set (off + 3) x3).set (off + 4) x4), ?_⟩
  cases res with
  | error q => exact ((((((show Fst w2 fb true q from hres).setOther ⟨tb, off, none⟩ htf x0).setOther ⟨tb, off + 1, none⟩ htf x1).setOther ⟨tb, off + 2, none⟩ htf x2).setOther ⟨tb, off + 3, none⟩ htf x3).setOther ⟨tb, off + 4, none⟩ htf x4)
  | ok a =>
    obtain ⟨hF2, hr2⟩ := hres
    have hr2 := hr2.mono (D' := fun b => w.heap.size ≤ b) (fun b hb _ => by have : w1.heap.size ≤ b := hb; have := HN.out; omega)
    have htn : ¬ w.heap.size ≤ tb := by have := HN.out; omega
    exact ⟨(((((hF2.setOther ⟨tb, off, none⟩ htf x0).setOther ⟨tb, off + 1, none⟩ htf x1).setOther ⟨tb, off + 2, none⟩ htf x2).setOther ⟨tb, off + 3, none⟩ htf x3).setOther ⟨tb, off + 4, none⟩ htf x4), (((((hr2.setOther ⟨tb, off, none⟩ htn x0).setOther ⟨tb, off + 1, none⟩ htn x1).setOther ⟨tb, off + 2, none⟩ htn x2).setOther ⟨tb, off + 3, none⟩ htn x3).setOther ⟨tb, off + 4, none⟩ htn x4)⟩

theorem intoPms_mk (pv : Value) (fv : Value) (w : World) (hp : ∃ a, pv = .pointer a) (hf : ∃ f, fv = .func f #[] #[]) :
    Calls Tryz.prog 48 #[pv, fv] w fun e w' => ∃ br bt, e = .returned (.func (.func 97) #[] #[.pointer (some ⟨br, 0, none⟩), .pointer (some ⟨bt, 0, none⟩)]) ∧ Ext (fun _ => False) w w' ∧
      (∃ t, Blk w' br #[fv] t) ∧ (∃ t, Blk w' bt #[pv] t) ∧ w.heap.size ≤ br ∧ w.heap.size ≤ bt := by
  obtain ⟨a, rfl⟩ := hp
  obtain ⟨f, rfl⟩ := hf
  have hmf : ∀ (fn : Fn) (first cap : Array Value) (w : World), (Instr.makeFunc fn first cap).run Tryz.prog w = .ok (.func fn first cap) w := fun _ _ _ _ => rfl
  go_enter Tryz.func48, Tryz.ntmps48
  go_wp2_with fail
  go_ret
  refine ⟨_, _, rfl, ((Ext.refl _ _).alloc _).alloc _, ⟨_, by have := Blk.new (w.alloc (.cells #[.pointer a] 130)) #[.func f #[] #[]] 131; simpa using this⟩, ⟨_, (Blk.new w #[.pointer a] 130).alloc _⟩, by simp, Nat.le_refl _⟩

set_option maxRecDepth 100000 in
set_option maxHeartbeats 800000 in
theorem intoPms_run (g : Nat) {α : Type} (enc : α → U) (res : RR α) (wd : ByteArray) (kv : Value) (r : Bool) (p : Int) (fb br bt tb off : Nat) (tt tr t2 : TypeId) (cs : Array Value) (w : World)
    (hR : Blk w br #[.func (.func g) #[] #[]] tr) (hB : Blk w bt #[.pointer (some ⟨tb, off, none⟩)] t2) (hT : Blk w tb cs tt) (hoff : off + 1 ≤ cs.size) (h1 : br ≠ fb) (h2 : bt ≠ fb) (h3 : tb ≠ fb) (hfl : fb < w.heap.size) (hkv : kv.oneCell' = true) (hent : ∀ args w, (callFunc g args).run Tryz.prog w = .ok (.enter g args) w)
    (hread : ∀ w1, Ext (fun _ => False) w w1 → Calls Tryz.prog g #[nodeV wd kv r p fb] w1 (RdPost fb shpSl mkOne enc res w1)) :
    Calls Tryz.prog 97 #[nodeV wd kv r p fb, .pointer (some ⟨br, 0, none⟩), .pointer (some ⟨bt, 0, none⟩)] w (IntoPost fb tb tt cs off shpSl enc res w) := by
  have hN := NodeIn.new w wd kv r p fb
  have hx1 := (Ext.refl (fun _ => False) w).alloc (.cells #[.string wd, kv, .bool r, .int .i64 p, .pointer (some ⟨fb, 0, none⟩)] 57)
  have hR1 := hR.alloc (.cells #[.string wd, kv, .bool r, .int .i64 p, .pointer (some ⟨fb, 0, none⟩)] 57)
  have hB1 := hB.alloc (.cells #[.string wd, kv, .bool r, .int .i64 p, .pointer (some ⟨fb, 0, none⟩)] 57)
  have hT1 := hT.alloc (.cells #[.string wd, kv, .bool r, .int .i64 p, .pointer (some ⟨fb, 0, none⟩)] 57)
  have hlt := hT.lt
  have hlr := hR.lt
  have hlb := hB.lt
  unfold nodeV at *
  go_enter Tryz.func97, Tryz.ntmps97
  go_wp2_with fail
  generalize w.alloc (.cells #[.string wd, kv, .bool r, .int .i64 p, .pointer (some ⟨fb, 0, none⟩)] 57) = w1 at *
  generalize hnbe : w.heap.size = nb at *
  have HN := Lib.hid hnbe
  clear hnbe
  haveI ne : Nonempty (Wd (fun x => Ext (· = fb) w1 x)) := ⟨⟨w1, Ext.refl _ _⟩⟩
  have q0 : ∀ x : Wd (fun x => Ext (· = fb) w1 x), x.w.cell? ⟨br, 0, none⟩ = some (.func (.func g) #[] #[]) := fun x => x.ok.cellSome (hR1.cell 0) h1
  have q1 : ∀ x : Wd (fun x => Ext (· = fb) w1 x), x.w.cell? ⟨bt, 0, none⟩ = some (.pointer (some ⟨tb, off, none⟩)) := fun x => x.ok.cellSome (hB1.cell 0) h2
  have hnb : ¬ nb = fb := by omega
  have q2 : ∀ x : Wd (fun x => Ext (· = fb) w1 x), x.w.cell? ⟨nb, 0, none⟩ = some (.string wd) := fun x => x.ok.cellSome hN.cells.1 hnb
  have q3 : ∀ x : Wd (fun x => Ext (· = fb) w1 x), x.w.cell? ⟨nb, 1, none⟩ = some kv := fun x => x.ok.cellSome hN.cells.2.1 hnb
  have q4 : ∀ x : Wd (fun x => Ext (· = fb) w1 x), x.w.cell? ⟨nb, 2, none⟩ = some (.bool r) := fun x => x.ok.cellSome hN.cells.2.2.1 hnb
  have q5 : ∀ x : Wd (fun x => Ext (· = fb) w1 x), x.w.cell? ⟨nb, 3, none⟩ = some (.int .i64 p) := fun x => x.ok.cellSome hN.cells.2.2.2.1 hnb
  have q6 : ∀ x : Wd (fun x => Ext (· = fb) w1 x), x.w.cell? ⟨nb, 4, none⟩ = some (.pointer (some ⟨fb, 0, none⟩)) := fun x => x.ok.cellSome hN.cells.2.2.2.2 hnb
  refine wp_region_steps (S := fun x => Ext (· = fb) w1 x) [([0, 1, 2], [3]), ([4], [])] _ (by kernel_rfl) (by kernel_rfl) rfl (by kernel_rfl) (fun _ d _ _ _ h => by cases d <;> exact h) (Ext.refl _ _).drew ?_
  simp only [segOps, List.filterMap_cons, List.filterMap_nil, List.getElem?_cons_zero, List.getElem?_cons_succ]
  refine wpSegs_cons ?_
  change wpQuiet _ _ _ _ (_ :: _ :: _ :: []) _
  repeat (go_big_quiet_step (fail))
  refine wpQuiet_nil ?_
  refine wpLoud_step rfl (fun K hK => ?_)
  go_simp
  refine (hread _ hx1.drew).mono ?_
  rintro e w2 ⟨hx2, xs, rfl, hsh, hres⟩
  have hx2' : Ext (· = fb) w1 w2 := ⟨hx2.os, hx2.tape, hx2.output, hx2.size, hx2.block⟩
  refine hK _ _ hx2' ?_
  clear hK hx2
  obtain ⟨a0, n0, cap0, rfl⟩ := hsh
  simp only [mkOne] at *
  refine wpLoud_nil ?_
  refine wpSegs_cons ?_
  change wpQuiet _ _ _ _ (_ :: []) _
  repeat (go_big_quiet_step (fail))
  refine wpQuiet_nil ?_
  refine wpLoud_nil ?_
  refine wpSegs_nil ?_
  have hT2 := hT1.ext hx2' h3
  have g0 := hT2.cell off
  have f0 := hT2.frozen off
  rw [Array.getElem?_eq_getElem (by omega)] at g0
  clear q0 q1 q2 q3 q4 q5 q6 ne
  go_wp2_with fail
  go_end0
  have hx3 : Ext (fun b => b = fb ∨ b = tb) w w2 := (hx1.mono (M' := fun b => b = fb ∨ b = tb) (fun _ _ h => h.elim)).trans hx2' (fun _ _ h => .inl h)
  have hn1 := hx1.size
  have htf : (tb : Nat) ≠ fb := h3
  refine ⟨rfl, (hx3.setCell (p := ⟨tb, off, none⟩) (fun _ => .inr rfl) (.slice a0 n0 cap0)), [(.slice a0 n0 cap0)], ⟨_, _, _, rfl⟩, (hT2.set (off) (.slice a0 n0 cap0)), ?_⟩
  cases res with
  | error q => exact ((show Fst w2 fb true q from hres).setOther ⟨tb, off, none⟩ htf (.slice a0 n0 cap0))
  | ok a =>
    obtain ⟨hF2, hr2⟩ := hres
    have hr2 := hr2.mono (D' := fun b => w.heap.size ≤ b) (fun b hb _ => by have : w1.heap.size ≤ b := hb; have := HN.out; omega)
    have htn : ¬ w.heap.size ≤ tb := by have := HN.out; omega
    exact ⟨(hF2.setOther ⟨tb, off, none⟩ htf (.slice a0 n0 cap0)), (hr2.setOther ⟨tb, off, none⟩ htn (.slice a0 n0 cap0))⟩

theorem intoTy_mk (pv : Value) (fv : Value) (w : World) (hp : ∃ a, pv = .pointer a) (hf : ∃ f, fv = .func f #[] #[]) :
    Calls Tryz.prog 50 #[pv, fv] w fun e w' => ∃ br bt, e = .returned (.func (.func 100) #[] #[.pointer (some ⟨br, 0, none⟩), .pointer (some ⟨bt, 0, none⟩)]) ∧ Ext (fun _ => False) w w' ∧
      (∃ t, Blk w' br #[fv] t) ∧ (∃ t, Blk w' bt #[pv] t) ∧ w.heap.size ≤ br ∧ w.heap.size ≤ bt := by
  obtain ⟨a, rfl⟩ := hp
  obtain ⟨f, rfl⟩ := hf
  have hmf : ∀ (fn : Fn) (first cap : Array Value) (w : World), (Instr.makeFunc fn first cap).run Tryz.prog w = .ok (.func fn first cap) w := fun _ _ _ _ => rfl
  go_enter Tryz.func50, Tryz.ntmps50
  go_wp2_with fail
  go_ret
  refine ⟨_, _, rfl, ((Ext.refl _ _).alloc _).alloc _, ⟨_, by have := Blk.new (w.alloc (.cells #[.pointer a] 134)) #[.func f #[] #[]] 135; simpa using this⟩, ⟨_, (Blk.new w #[.pointer a] 134).alloc _⟩, by simp, Nat.le_refl _⟩

set_option maxRecDepth 100000 in
set_option maxHeartbeats 800000 in
theorem intoTy_run (g : Nat) {α : Type} (enc : α → U) (res : RR α) (wd : ByteArray) (kv : Value) (r : Bool) (p : Int) (fb br bt tb off : Nat) (tt tr t2 : TypeId) (cs : Array Value) (w : World)
    (hR : Blk w br #[.func (.func g) #[] #[]] tr) (hB : Blk w bt #[.pointer (some ⟨tb, off, none⟩)] t2) (hT : Blk w tb cs tt) (hoff : off + 9 ≤ cs.size) (h1 : br ≠ fb) (h2 : bt ≠ fb) (h3 : tb ≠ fb) (hfl : fb < w.heap.size) (hkv : kv.oneCell' = true) (hent : ∀ args w, (callFunc g args).run Tryz.prog w = .ok (.enter g args) w)
    (hread : ∀ w1, Ext (fun _ => False) w w1 → Calls Tryz.prog g #[nodeV wd kv r p fb] w1 (RdPost fb (shpN 9) mkAgg enc res w1)) :
    Calls Tryz.prog 100 #[nodeV wd kv r p fb, .pointer (some ⟨br, 0, none⟩), .pointer (some ⟨bt, 0, none⟩)] w (IntoPost fb tb tt cs off (shpN 9) enc res w) := by
  have hN := NodeIn.new w wd kv r p fb
  have hx1 := (Ext.refl (fun _ => False) w).alloc (.cells #[.string wd, kv, .bool r, .int .i64 p, .pointer (some ⟨fb, 0, none⟩)] 57)
  have hR1 := hR.alloc (.cells #[.string wd, kv, .bool r, .int .i64 p, .pointer (some ⟨fb, 0, none⟩)] 57)
  have hB1 := hB.alloc (.cells #[.string wd, kv, .bool r, .int .i64 p, .pointer (some ⟨fb, 0, none⟩)] 57)
  have hT1 := hT.alloc (.cells #[.string wd, kv, .bool r, .int .i64 p, .pointer (some ⟨fb, 0, none⟩)] 57)
  have hlt := hT.lt
  have hlr := hR.lt
  have hlb := hB.lt
  unfold nodeV at *
  go_enter Tryz.func100, Tryz.ntmps100
  go_wp2_with fail
  generalize w.alloc (.cells #[.string wd, kv, .bool r, .int .i64 p, .pointer (some ⟨fb, 0, none⟩)] 57) = w1 at *
  generalize hnbe : w.heap.size = nb at *
  have HN := Lib.hid hnbe
  clear hnbe
  haveI ne : Nonempty (Wd (fun x => Ext (· = fb) w1 x)) := ⟨⟨w1, Ext.refl _ _⟩⟩
  have q0 : ∀ x : Wd (fun x => Ext (· = fb) w1 x), x.w.cell? ⟨br, 0, none⟩ = some (.func (.func g) #[] #[]) := fun x => x.ok.cellSome (hR1.cell 0) h1
  have q1 : ∀ x : Wd (fun x => Ext (· = fb) w1 x), x.w.cell? ⟨bt, 0, none⟩ = some (.pointer (some ⟨tb, off, none⟩)) := fun x => x.ok.cellSome (hB1.cell 0) h2
  have hnb : ¬ nb = fb := by omega
  have q2 : ∀ x : Wd (fun x => Ext (· = fb) w1 x), x.w.cell? ⟨nb, 0, none⟩ = some (.string wd) := fun x => x.ok.cellSome hN.cells.1 hnb
  have q3 : ∀ x : Wd (fun x => Ext (· = fb) w1 x), x.w.cell? ⟨nb, 1, none⟩ = some kv := fun x => x.ok.cellSome hN.cells.2.1 hnb
  have q4 : ∀ x : Wd (fun x => Ext (· = fb) w1 x), x.w.cell? ⟨nb, 2, none⟩ = some (.bool r) := fun x => x.ok.cellSome hN.cells.2.2.1 hnb
  have q5 : ∀ x : Wd (fun x => Ext (· = fb) w1 x), x.w.cell? ⟨nb, 3, none⟩ = some (.int .i64 p) := fun x => x.ok.cellSome hN.cells.2.2.2.1 hnb
  have q6 : ∀ x : Wd (fun x => Ext (· = fb) w1 x), x.w.cell? ⟨nb, 4, none⟩ = some (.pointer (some ⟨fb, 0, none⟩)) := fun x => x.ok.cellSome hN.cells.2.2.2.2 hnb
  refine wp_region_steps (S := fun x => Ext (· = fb) w1 x) [([0, 1, 2], [3]), ([4], [])] _ (by kernel_rfl) (by kernel_rfl) rfl (by kernel_rfl) (fun _ d _ _ _ h => by cases d <;> exact h) (Ext.refl _ _).drew ?_
  simp only [segOps, List.filterMap_cons, List.filterMap_nil, List.getElem?_cons_zero, List.getElem?_cons_succ]
  refine wpSegs_cons ?_
  change wpQuiet _ _ _ _ (_ :: _ :: _ :: []) _
  repeat (go_big_quiet_step (fail))
  refine wpQuiet_nil ?_
  refine wpLoud_step rfl (fun K hK => ?_)
  go_simp
  refine (hread _ hx1.drew).mono ?_
  rintro e w2 ⟨hx2, xs, rfl, hsh, hres⟩
  have hx2' : Ext (· = fb) w1 w2 := ⟨hx2.os, hx2.tape, hx2.output, hx2.size, hx2.block⟩
  refine hK _ _ hx2' ?_
  clear hK hx2
  have hsh0 := hsh
  obtain ⟨x0, x1, x2, x3, x4, x5, x6, x7, x8, rfl, o0, o1, o2, o3, o4, o5, o6, o7, o8⟩ := len9 hsh
  simp only [mkAgg] at *
  refine wpLoud_nil ?_
  refine wpSegs_cons ?_
  change wpQuiet _ _ _ _ (_ :: []) _
  repeat (go_big_quiet_step (fail))
  refine wpQuiet_nil ?_
  refine wpLoud_nil ?_
  refine wpSegs_nil ?_
  have hT2 := hT1.ext hx2' h3
  have st0 := store_ok (P := Tryz.prog) hT2 (off) x0 (by first | omega | (simp; omega)) o0
  have st1 := store_ok (P := Tryz.prog) (hT2.set (off) x0) (off + 1) x1 (by first | omega | (simp; omega)) o1
  have st2 := store_ok (P := Tryz.prog) ((hT2.set (off) x0).set (off + 1) x1) (off + 2) x2 (by first | omega | (simp; omega)) o2
  have st3 := store_ok (P := Tryz.prog) (((hT2.set (off) x0).set (off + 1) x1).set (off + 2) x2) (off + 3) x3 (by first | omega | (simp; omega)) o3
  have st4 := store_ok (P := Tryz.prog) ((((hT2.set (off) x0).set (off + 1) x1).set (off + 2) x2).set (off + 3) x3) (off + 4) x4 (by first | omega | (simp; omega)) o4
  have st5 := store_ok (P := Tryz.prog) (((((hT2.set (off) x0).set (off + 1) x1).set (off + 2) x2).set (off + 3) x3).set (off + 4) x4) (off + 5) x5 (by first | omega | (simp; omega)) o5
  have st6 := store_ok (P := Tryz.prog) ((((((hT2.set (off) x0).set (off + 1) x1).set (off + 2) x2).set (off + 3) x3).set (off + 4) x4).set (off + 5) x5) (off + 6) x6 (by first | omega | (simp; omega)) o6
  have st7 := store_ok (P := Tryz.prog) (((((((hT2.set (off) x0).set (off + 1) x1).set (off + 2) x2).set (off + 3) x3).set (off + 4) x4).set (off + 5) x5).set (off + 6) x6) (off + 7) x7 (by first | omega | (simp; omega)) o7
  have st8 := store_ok (P := Tryz.prog) ((((((((hT2.set (off) x0).set (off + 1) x1).set (off + 2) x2).set (off + 3) x3).set (off + 4) x4).set (off + 5) x5).set (off + 6) x6).set (off + 7) x7) (off + 8) x8 (by first | omega | (simp; omega)) o8
  clear q0 q1 q2 q3 q4 q5 q6 ne
  go_wp2_with fail
  go_end0
  have hx3 : Ext (fun b => b = fb ∨ b = tb) w w2 := (hx1.mono (M' := fun b => b = fb ∨ b = tb) (fun _ _ h => h.elim)).trans hx2' (fun _ _ h => .inl h)
  have hn1 := hx1.size
  have htf : (tb : Nat) ≠ fb := h3
  refine ⟨rfl, (((((((((hx3.setCell (p := ⟨tb, off, none⟩) (fun _ => .inr rfl) x0).setCell (p := ⟨tb, off + 1, none⟩) (fun _ => .inr rfl) x1).setCell (p := ⟨tb, off + 2, none⟩) (fun _ => .inr rfl) x2).setCell (p := ⟨tb, off + 3, none⟩) (fun _ => .inr rfl) x3).setCell (p := ⟨tb, off + 4, none⟩) (fun _ => .inr rfl) x4).setCell (p := ⟨tb, off + 5, none⟩) (fun _ => .inr rfl) x5).setCell (p := ⟨tb, off + 6, none⟩) (fun _ => .inr rfl) x6).setCell (p := ⟨tb, off + 7, none⟩) (fun _ => .inr rfl) x7).setCell (p := ⟨tb, off + 8, none⟩) (fun _ => .inr rfl) x8), [x0, x1, x2, x3, x4, x5, x6, x7, x8], hsh0, (((((((((hT2.set (off) x0).set (off + 1) x1).set (off + 2) x2).set (off + 3) x3).set (off + 4) x4).set (off + 5) x5).set (off + 6) x6).set (off + 7) x7).set (off + 8) x8), ?_⟩
  cases res with
  | error q => exact ((((((((((show Fst w2 fb true q from hres).setOther ⟨tb, off, none⟩ htf x0).setOther ⟨tb, off + 1, none⟩ htf x1).setOther ⟨tb, off + 2, none⟩ htf x2).setOther ⟨tb, off + 3, none⟩ htf x3).setOther ⟨tb, off + 4, none⟩ htf x4).setOther ⟨tb, off + 5, none⟩ htf x5).setOther ⟨tb, off + 6, none⟩ htf x6).setOther ⟨tb, off + 7, none⟩ htf x7).setOther ⟨tb, off + 8, none⟩ htf x8)
  | ok a =>
    obtain ⟨hF2, hr2⟩ := hres
    have hr2 := hr2.mono (D' := fun b => w.heap.size ≤ b) (fun b hb _ => by have : w1.heap.size ≤ b := hb; have := HN.out; omega)
    have htn : ¬ w.heap.size ≤ tb := by have := HN.out; omega
    exact ⟨(((((((((hF2.setOther ⟨tb, off, none⟩ htf x0).setOther ⟨tb, off + 1, none⟩ htf x1).setOther ⟨tb, off + 2, none⟩ htf x2).setOther ⟨tb, off + 3, none⟩ htf x3).setOther ⟨tb, off + 4, none⟩ htf x4).setOther ⟨tb, off + 5, none⟩ htf x5).setOther ⟨tb, off + 6, none⟩ htf x6).setOther ⟨tb, off + 7, none⟩ htf x7).setOther ⟨tb, off + 8, none⟩ htf x8), (((((((((hr2.setOther ⟨tb, off, none⟩ htn x0).setOther ⟨tb, off + 1, none⟩ htn x1).setOther ⟨tb, off + 2, none⟩ htn x2).setOther ⟨tb, off + 3, none⟩ htn x3).setOther ⟨tb, off + 4, none⟩ htn x4).setOther ⟨tb, off + 5, none⟩ htn x5).setOther ⟨tb, off + 6, none⟩ htn x6).setOther ⟨tb, off + 7, none⟩ htn x7).setOther ⟨tb, off + 8, none⟩ htn x8)⟩

theorem intoEx_mk (pv : Value) (fv : Value) (w : World) (hp : ∃ a, pv = .pointer a) (hf : ∃ f, fv = .func f #[] #[]) :
    Calls Tryz.prog 52 #[pv, fv] w fun e w' => ∃ br bt, e = .returned (.func (.func 101) #[] #[.pointer (some ⟨br, 0, none⟩), .pointer (some ⟨bt, 0, none⟩)]) ∧ Ext (fun _ => False) w w' ∧
      (∃ t, Blk w' br #[fv] t) ∧ (∃ t, Blk w' bt #[pv] t) ∧ w.heap.size ≤ br ∧ w.heap.size ≤ bt := by
  obtain ⟨a, rfl⟩ := hp
  obtain ⟨f, rfl⟩ := hf
  have hmf : ∀ (fn : Fn) (first cap : Array Value) (w : World), (Instr.makeFunc fn first cap).run Tryz.prog w = .ok (.func fn first cap) w := fun _ _ _ _ => rfl
  go_enter Tryz.func52, Tryz.ntmps52
  go_wp2_with fail
  go_ret
  refine ⟨_, _, rfl, ((Ext.refl _ _).alloc _).alloc _, ⟨_, by have := Blk.new (w.alloc (.cells #[.pointer a] 138)) #[.func f #[] #[]] 139; simpa using this⟩, ⟨_, (Blk.new w #[.pointer a] 138).alloc _⟩, by simp, Nat.le_refl _⟩

set_option maxRecDepth 100000 in
set_option maxHeartbeats 800000 in
theorem intoEx_run (g : Nat) {α : Type} (enc : α → U) (res : RR α) (wd : ByteArray) (kv : Value) (r : Bool) (p : Int) (fb br bt tb off : Nat) (tt tr t2 : TypeId) (cs : Array Value) (w : World)
    (hR : Blk w br #[.func (.func g) #[] #[]] tr) (hB : Blk w bt #[.pointer (some ⟨tb, off, none⟩)] t2) (hT : Blk w tb cs tt) (hoff : off + 11 ≤ cs.size) (h1 : br ≠ fb) (h2 : bt ≠ fb) (h3 : tb ≠ fb) (hfl : fb < w.heap.size) (hkv : kv.oneCell' = true) (hent : ∀ args w, (callFunc g args).run Tryz.prog w = .ok (.enter g args) w)
    (hread : ∀ w1, Ext (fun _ => False) w w1 → Calls Tryz.prog g #[nodeV wd kv r p fb] w1 (RdPost fb (shpN 11) mkAgg enc res w1)) :
    Calls Tryz.prog 101 #[nodeV wd kv r p fb, .pointer (some ⟨br, 0, none⟩), .pointer (some ⟨bt, 0, none⟩)] w (IntoPost fb tb tt cs off (shpN 11) enc res w) := by
  have hN := NodeIn.new w wd kv r p fb
  have hx1 := (Ext.refl (fun _ => False) w).alloc (.cells #[.string wd, kv, .bool r, .int .i64 p, .pointer (some ⟨fb, 0, none⟩)] 57)
  have hR1 := hR.alloc (.cells #[.string wd, kv, .bool r, .int .i64 p, .pointer (some ⟨fb, 0, none⟩)] 57)
  have hB1 := hB.alloc (.cells #[.string wd, kv, .bool r, .int .i64 p, .pointer (some ⟨fb, 0, none⟩)] 57)
  have hT1 := hT.alloc (.cells #[.string wd, kv, .bool r, .int .i64 p, .pointer (some ⟨fb, 0, none⟩)] 57)
  have hlt := hT.lt
  have hlr := hR.lt
  have hlb := hB.lt
  unfold nodeV at *
  go_enter Tryz.func101, Tryz.ntmps101
  go_wp2_with fail
  generalize w.alloc (.cells #[.string wd, kv, .bool r, .int .i64 p, .pointer (some ⟨fb, 0, none⟩)] 57) = w1 at *
  generalize hnbe : w.heap.size = nb at *
  have HN := Lib.hid hnbe
  clear hnbe
  haveI ne : Nonempty (Wd (fun x => Ext (· = fb) w1 x)) := ⟨⟨w1, Ext.refl _ _⟩⟩
  have q0 : ∀ x : Wd (fun x => Ext (· = fb) w1 x), x.w.cell? ⟨br, 0, none⟩ = some (.func (.func g) #[] #[]) := fun x => x.ok.cellSome (hR1.cell 0) h1
  have q1 : ∀ x : Wd (fun x => Ext (· = fb) w1 x), x.w.cell? ⟨bt, 0, none⟩ = some (.pointer (some ⟨tb, off, none⟩)) := fun x => x.ok.cellSome (hB1.cell 0) h2
  have hnb : ¬ nb = fb := by omega
  have q2 : ∀ x : Wd (fun x => Ext (· = fb) w1 x), x.w.cell? ⟨nb, 0, none⟩ = some (.string wd) := fun x => x.ok.cellSome hN.cells.1 hnb
  have q3 : ∀ x : Wd (fun x => Ext (· = fb) w1 x), x.w.cell? ⟨nb, 1, none⟩ = some kv := fun x => x.ok.cellSome hN.cells.2.1 hnb
  have q4 : ∀ x : Wd (fun x => Ext (· = fb) w1 x), x.w.cell? ⟨nb, 2, none⟩ = some (.bool r) := fun x => x.ok.cellSome hN.cells.2.2.1 hnb
  have q5 : ∀ x : Wd (fun x => Ext (· = fb) w1 x), x.w.cell? ⟨nb, 3, none⟩ = some (.int .i64 p) := fun x => x.ok.cellSome hN.cells.2.2.2.1 hnb
  have q6 : ∀ x : Wd (fun x => Ext (· = fb) w1 x), x.w.cell? ⟨nb, 4, none⟩ = some (.pointer (some ⟨fb, 0, none⟩)) := fun x => x.ok.cellSome hN.cells.2.2.2.2 hnb
  refine wp_region_steps (S := fun x => Ext (· = fb) w1 x) [([0, 1, 2], [3]), ([4], [])] _ (by kernel_rfl) (by kernel_rfl) rfl (by kernel_rfl) (fun _ d _ _ _ h => by cases d <;> exact h) (Ext.refl _ _).drew ?_
  simp only [segOps, List.filterMap_cons, List.filterMap_nil, List.getElem?_cons_zero, List.getElem?_cons_succ]
  refine wpSegs_cons ?_
  change wpQuiet _ _ _ _ (_ :: _ :: _ :: []) _
  repeat (go_big_quiet_step (fail))
  refine wpQuiet_nil ?_
  refine wpLoud_step rfl (fun K hK => ?_)
  go_simp
  refine (hread _ hx1.drew).mono ?_
  rintro e w2 ⟨hx2, xs, rfl, hsh, hres⟩
  have hx2' : Ext (· = fb) w1 w2 := ⟨hx2.os, hx2.tape, hx2.output, hx2.size, hx2.block⟩
  refine hK _ _ hx2' ?_
  clear hK hx2
  have hsh0 := hsh
  obtain ⟨x0, x1, x2, x3, x4, x5, x6, x7, x8, x9, x10, rfl, o0, o1, o2, o3, o4, o5, o6, o7, o8, o9, o10⟩ := len11 hsh
  simp only [mkAgg] at *
  refine wpLoud_nil ?_
  refine wpSegs_cons ?_
  change wpQuiet _ _ _ _ (_ :: []) _
  repeat (go_big_quiet_step (fail))
  refine wpQuiet_nil ?_
  refine wpLoud_nil ?_
  refine wpSegs_nil ?_
  have hT2 := hT1.ext hx2' h3
  have st0 := store_ok (P := Tryz.prog) hT2 (off) x0 (by first | omega | (simp; omega)) o0
  have st1 := store_ok (P := Tryz.prog) (hT2.set (off) x0) (off + 1) x1 (by first | omega | (simp; omega)) o1
  have st2 := store_ok (P := Tryz.prog) ((hT2.set (off) x0).set (off + 1) x1) (off + 2) x2 (by first | omega | (simp; omega)) o2
  have st3 := store_ok (P := Tryz.prog) (((hT2.set (off) x0).set (off + 1) x1).set (off + 2) x2) (off + 3) x3 (by first | omega | (simp; omega)) o3
  have st4 := store_ok (P := Tryz.prog) ((((hT2.set (off) x0).set (off + 1) x1).set (off + 2) x2).set (off + 3) x3) (off + 4) x4 (by first | omega | (simp; omega)) o4
  have st5 := store_ok (P := Tryz.prog) (((((hT2.set (off) x0).set (off + 1) x1).set (off + 2) x2).set (off + 3) x3).set (off + 4) x4) (off + 5) x5 (by first | omega | (simp; omega)) o5
  have st6 := store_ok (P := Tryz.prog) ((((((hT2.set (off) x0).set (off + 1) x1).set (off + 2) x2).set (off + 3) x3).set (off + 4) x4).set (off + 5) x5) (off + 6) x6 (by first | omega | (simp; omega)) o6
  have st7 := store_ok (P := Tryz.prog) (((((((hT2.set (off) x0).set (off + 1) x1).set (off + 2) x2).set (off + 3) x3).set (off + 4) x4).set (off + 5) x5).set (off + 6) x6) (off + 7) x7 (by first | omega | (simp; omega)) o7
  have st8 := store_ok (P := Tryz.prog) ((((((((hT2.set (off) x0).set (off + 1) x1).set (off + 2) x2).set (off + 3) x3).set (off + 4) x4).set (off + 5) x5).set (off + 6) x6).set (off + 7) x7) (off + 8) x8 (by first | omega | (simp; omega)) o8
  have st9 := store_ok (P := Tryz.prog) (((((((((hT2.set (off) x0).set (off + 1) x1).set (off + 2) x2).set (off + 3) x3).set (off + 4) x4).set (off + 5) x5).set (off + 6) x6).set (off + 7) x7).set (off + 8) x8) (off + 9) x9 (by first | omega | (simp; omega)) o9
  have st10 := store_ok (P := Tryz.prog) ((((((((((hT2.set (off) x0).set (off + 1) x1).set (off + 2) x2).set (off + 3) x3).set (off + 4) x4).set (off + 5) x5).set (off + 6) x6).set (off + 7) x7).set (off + 8) x8).set (off + 9) x9) (off + 10) x10 (by first | omega | (simp; omega)) o10
  clear q0 q1 q2 q3 q4 q5 q6 ne
  go_wp2_with fail
  go_end0
  have hx3 : Ext (fun b => b = fb ∨ b = tb) w w2 := (hx1.mono (M' := fun b => b = fb ∨ b = tb) (fun _ _ h => h.elim)).trans hx2' (fun _ _ h => .inl h)
  have hn1 := hx1.size
  have htf : (tb : Nat) ≠ fb := h3
  refine ⟨rfl, (((((((((((hx3.setCell (p := ⟨tb, off, none⟩) (fun _ => .inr rfl) x0).setCell (p := ⟨tb, off + 1, none⟩) (fun _ => .inr rfl) x1).setCell (p := ⟨tb, off + 2, none⟩) (fun _ => .inr rfl) x2).setCell (p := ⟨tb, off + 3, none⟩) (fun _ => .inr rfl) x3).setCell (p := ⟨tb, off + 4, none⟩) (fun _ => .inr rfl) x4).setCell (p := ⟨tb, off + 5, none⟩) (fun _ => .inr rfl) x5).setCell (p := ⟨tb, off + 6, none⟩) (fun _ => .inr rfl) x6).setCell (p := ⟨tb, off + 7, none⟩) (fun _ => .inr rfl) x7).setCell (p := ⟨tb, off + 8, none⟩) (fun _ => .inr rfl) x8).setCell (p := ⟨tb, off + 9, none⟩) (fun _ => .inr rfl) x9).setCell (p := ⟨tb, off + 10, none⟩) (fun _ => .inr rfl) x10), [x0, x1, x2, x3, x4, x5, x6, x7, x8, x9, x10], hsh0, (((((((((((hT2.set (off) x0).set (off + 1) x1).set (off + 2) x2).set (off + 3) x3).set (off + 4) x4).set (off + 5) x5).set (off + 6) x6).set (off + 7) x7).set (off + 8) x8).set (off + 9) x9).set (off + 10) x10), ?_⟩
  cases res with
  | error q => exact ((((((((((((show Fst w2 fb true q from hres).setOther ⟨tb, off, none⟩ htf x0).setOther ⟨tb, off + 1, none⟩ htf x1).setOther ⟨tb, off + 2, none⟩ htf x2).setOther ⟨tb, off + 3, none⟩ htf x3).setOther ⟨tb, off + 4, none⟩ htf x4).setOther ⟨tb, off + 5, none⟩ htf x5).setOther ⟨tb, off + 6, none⟩ htf x6).setOther ⟨tb, off + 7, none⟩ htf x7).setOther ⟨tb, off + 8, none⟩ htf x8).setOther ⟨tb, off + 9, none⟩ htf x9).setOther ⟨tb, off + 10, none⟩ htf x10)
  | ok a =>
    obtain ⟨hF2, hr2⟩ := hres
    have hr2 := hr2.mono (D' := fun b => w.heap.size ≤ b) (fun b hb _ => by have : w1.heap.size ≤ b := hb; have := HN.out; omega)
    have htn : ¬ w.heap.size ≤ tb := by have := HN.out; omega
    exact ⟨(((((((((((hF2.setOther ⟨tb, off, none⟩ htf x0).setOther ⟨tb, off + 1, none⟩ htf x1).setOther ⟨tb, off + 2, none⟩ htf x2).setOther ⟨tb, off + 3, none⟩ htf x3).setOther ⟨tb, off + 4, none⟩ htf x4).setOther ⟨tb, off + 5, none⟩ htf x5).setOther ⟨tb, off + 6, none⟩ htf x6).setOther ⟨tb, off + 7, none⟩ htf x7).setOther ⟨tb, off + 8, none⟩ htf x8).setOther ⟨tb, off + 9, none⟩ htf x9).setOther ⟨tb, off + 10, none⟩ htf x10), (((((((((((hr2.setOther ⟨tb, off, none⟩ htn x0).setOther ⟨tb, off + 1, none⟩ htn x1).setOther ⟨tb, off + 2, none⟩ htn x2).setOther ⟨tb, off + 3, none⟩ htn x3).setOther ⟨tb, off + 4, none⟩ htn x4).setOther ⟨tb, off + 5, none⟩ htn x5).setOther ⟨tb, off + 6, none⟩ htn x6).setOther ⟨tb, off + 7, none⟩ htn x7).setOther ⟨tb, off + 8, none⟩ htn x8).setOther ⟨tb, off + 9, none⟩ htn x9).setOther ⟨tb, off + 10, none⟩ htn x10)⟩

theorem intoZi_mk (pv : Value) (fv : Value) (w : World) (hp : ∃ a, pv = .pointer a) (hf : ∃ f, fv = .func f #[] #[]) :
    Calls Tryz.prog 73 #[pv, fv] w fun e w' => ∃ br bt, e = .returned (.func (.func 122) #[] #[.pointer (some ⟨br, 0, none⟩), .pointer (some ⟨bt, 0, none⟩)]) ∧ Ext (fun _ => False) w w' ∧
      (∃ t, Blk w' br #[fv] t) ∧ (∃ t, Blk w' bt #[pv] t) ∧ w.heap.size ≤ br ∧ w.heap.size ≤ bt := by
  obtain ⟨a, rfl⟩ := hp
  obtain ⟨f, rfl⟩ := hf
  have hmf : ∀ (fn : Fn) (first cap : Array Value) (w : World), (Instr.makeFunc fn first cap).run Tryz.prog w = .ok (.func fn first cap) w := fun _ _ _ _ => rfl
  go_enter Tryz.func73, Tryz.ntmps73
  go_wp2_with fail
  go_ret
  refine ⟨_, _, rfl, ((Ext.refl _ _).alloc _).alloc _, ⟨_, by have := Blk.new (w.alloc (.cells #[.pointer a] 165)) #[.func f #[] #[]] 166; simpa using this⟩, ⟨_, (Blk.new w #[.pointer a] 165).alloc _⟩, by simp, Nat.le_refl _⟩

set_option maxRecDepth 100000 in
set_option maxHeartbeats 800000 in
theorem intoZi_run (g : Nat) {α : Type} (enc : α → U) (res : RR α) (wd : ByteArray) (kv : Value) (r : Bool) (p : Int) (fb br bt tb off : Nat) (tt tr t2 : TypeId) (cs : Array Value) (w : World)
    (hR : Blk w br #[.func (.func g) #[] #[]] tr) (hB : Blk w bt #[.pointer (some ⟨tb, off, none⟩)] t2) (hT : Blk w tb cs tt) (hoff : off + 2 ≤ cs.size) (h1 : br ≠ fb) (h2 : bt ≠ fb) (h3 : tb ≠ fb) (hfl : fb < w.heap.size) (hkv : kv.oneCell' = true) (hent : ∀ args w, (callFunc g args).run Tryz.prog w = .ok (.enter g args) w)
    (hread : ∀ w1, Ext (fun _ => False) w w1 → Calls Tryz.prog g #[nodeV wd kv r p fb] w1 (RdPost fb (shpN 2) mkAgg enc res w1)) :
    Calls Tryz.prog 122 #[nodeV wd kv r p fb, .pointer (some ⟨br, 0, none⟩), .pointer (some ⟨bt, 0, none⟩)] w (IntoPost fb tb tt cs off (shpN 2) enc res w) := by
  have hN := NodeIn.new w wd kv r p fb
  have hx1 := (Ext.refl (fun _ => False) w).alloc (.cells #[.string wd, kv, .bool r, .int .i64 p, .pointer (some ⟨fb, 0, none⟩)] 57)
  have hR1 := hR.alloc (.cells #[.string wd, kv, .bool r, .int .i64 p, .pointer (some ⟨fb, 0, none⟩)] 57)
  have hB1 := hB.alloc (.cells #[.string wd, kv, .bool r, .int .i64 p, .pointer (some ⟨fb, 0, none⟩)] 57)
  have hT1 := hT.alloc (.cells #[.string wd, kv, .bool r, .int .i64 p, .pointer (some ⟨fb, 0, none⟩)] 57)
  have hlt := hT.lt
  have hlr := hR.lt
  have hlb := hB.lt
  unfold nodeV at *
  go_enter Tryz.func122, Tryz.ntmps122
  go_wp2_with fail
  generalize w.alloc (.cells #[.string wd, kv, .bool r, .int .i64 p, .pointer (some ⟨fb, 0, none⟩)] 57) = w1 at *
  generalize hnbe : w.heap.size = nb at *
  have HN := Lib.hid hnbe
  clear hnbe
  haveI ne : Nonempty (Wd (fun x => Ext (· = fb) w1 x)) := ⟨⟨w1, Ext.refl _ _⟩⟩
  have q0 : ∀ x : Wd (fun x => Ext (· = fb) w1 x), x.w.cell? ⟨br, 0, none⟩ = some (.func (.func g) #[] #[]) := fun x => x.ok.cellSome (hR1.cell 0) h1
  have q1 : ∀ x : Wd (fun x => Ext (· = fb) w1 x), x.w.cell? ⟨bt, 0, none⟩ = some (.pointer (some ⟨tb, off, none⟩)) := fun x => x.ok.cellSome (hB1.cell 0) h2
  have hnb : ¬ nb = fb := by omega
  have q2 : ∀ x : Wd (fun x => Ext (· = fb) w1 x), x.w.cell? ⟨nb, 0, none⟩ = some (.string wd) := fun x => x.ok.cellSome hN.cells.1 hnb
  have q3 : ∀ x : Wd (fun x => Ext (· = fb) w1 x), x.w.cell? ⟨nb, 1, none⟩ = some kv := fun x => x.ok.cellSome hN.cells.2.1 hnb
  have q4 : ∀ x : Wd (fun x => Ext (· = fb) w1 x), x.w.cell? ⟨nb, 2, none⟩ = some (.bool r) := fun x => x.ok.cellSome hN.cells.2.2.1 hnb
  have q5 : ∀ x : Wd (fun x => Ext (· = fb) w1 x), x.w.cell? ⟨nb, 3, none⟩ = some (.int .i64 p) := fun x => x.ok.cellSome hN.cells.2.2.2.1 hnb
  have q6 : ∀ x : Wd (fun x => Ext (· = fb) w1 x), x.w.cell? ⟨nb, 4, none⟩ = some (.pointer (some ⟨fb, 0, none⟩)) := fun x => x.ok.cellSome hN.cells.2.2.2.2 hnb
  refine wp_region_steps (S := fun x => Ext (· = fb) w1 x) [([0, 1, 2], [3]), ([4], [])] _ (by kernel_rfl) (by kernel_rfl) rfl (by kernel_rfl) (fun _ d _ _ _ h => by cases d <;> exact h) (Ext.refl _ _).drew ?_
  simp only [segOps, List.filterMap_cons, List.filterMap_nil, List.getElem?_cons_zero, List.getElem?_cons_succ]
  refine wpSegs_cons ?_
  change wpQuiet _ _ _ _ (_ :: _ :: _ :: []) _
  repeat (go_big_quiet_step (fail))
  refine wpQuiet_nil ?_
  refine wpLoud_step rfl (fun K hK => ?_)
  go_simp
  refine (hread _ hx1.drew).mono ?_
  rintro e w2 ⟨hx2, xs, rfl, hsh, hres⟩
  have hx2' : Ext (· = fb) w1 w2 := ⟨hx2.os, hx2.tape, hx2.output, hx2.size, hx2.block⟩
  refine hK _ _ hx2' ?_
  clear hK hx2
  have hsh0 := hsh
  obtain ⟨x0, x1, rfl, o0, o1⟩ := len2 hsh
  simp only [mkAgg] at *
  refine wpLoud_nil ?_
  refine wpSegs_cons ?_
  change wpQuiet _ _ _ _ (_ :: []) _
  repeat (go_big_quiet_step (fail))
  refine wpQuiet_nil ?_
  refine wpLoud_nil ?_
  refine wpSegs_nil ?_
  have hT2 := hT1.ext hx2' h3
  have st0 := store_ok (P := Tryz.prog) hT2 (off) x0 (by first | omega | (simp; omega)) o0
  have st1 := store_ok (P := Tryz.prog) (hT2.set (off) x0) (off + 1) x1 (by first | omega | (simp; omega)) o1
  clear q0 q1 q2 q3 q4 q5 q6 ne
  go_wp2_with fail
  go_end0
  have hx3 : Ext (fun b => b = fb ∨ b = tb) w w2 := (hx1.mono (M' := fun b => b = fb ∨ b = tb) (fun _ _ h => h.elim)).trans hx2' (fun _ _ h => .inl h)
  have hn1 := hx1.size
  have htf : (tb : Nat) ≠ fb := h3
  refine ⟨rfl, ((hx3.setCell (p := ⟨tb, off, none⟩) (fun _ => .inr rfl) x0).setCell (p := ⟨tb, off + 1, none⟩) (fun _ => .inr rfl) x1), [x0, x1], hsh0, ((hT2.set (off) x0).set (off + 1) x1), ?_⟩
  cases res with
  | error q => exact (((show Fst w2 fb true q from hres).setOther ⟨tb, off, none⟩ htf x0).setOther ⟨tb, off + 1, none⟩ htf x1)
  | ok a =>
    obtain ⟨hF2, hr2⟩ := hres
    have hr2 := hr2.mono (D' := fun b => w.heap.size ≤ b) (fun b hb _ => by have : w1.heap.size ≤ b := hb; have := HN.out; omega)
    have htn : ¬ w.heap.size ≤ tb := by have := HN.out; omega
    exact ⟨((hF2.setOther ⟨tb, off, none⟩ htf x0).setOther ⟨tb, off + 1, none⟩ htf x1), ((hr2.setOther ⟨tb, off, none⟩ htn x0).setOther ⟨tb, off + 1, none⟩ htn x1)⟩

end Go.Proofs.YtmcinpeplkkpfaaGreatDoor

namespace Go.Proofs.YtmcinpeplkkpfaaGreatDoor
open Go.RowKit
set_option linter.unusedVariables false
theorem parts_bad {B : Nat} (wd : ByteArray) (kv : Value) (r : Bool) (p : Int) (fb : Nat) (k : F) (rb n : Nat) (w : World) (hk : Sl (· < B) w kv k) (hF : Fst w fb false 0) (hn : (n : Int) ≤ 100) (hb : r = false ∨ k.len ≠ n) :
    Calls Tryz.prog 42 #[nodeV wd kv r p fb, .slice (some ⟨rb, 0, none⟩) n n] w fun e w' => e = .returned (.tuple #[]) ∧ Ext (· = fb) w w' ∧ Fst w' fb true p := by
  obtain ⟨a, cap, rfl, h1, h2⟩ := hk.shape
  have hl := Blk.lt hF
  unfold maxLen at h2
  unfold nodeV
  have hF1 := fun o => Fst.ext (M := fun _ => False) hF ((Ext.refl _ w).alloc o) id
  cases r with
  | false =>
    go_enter Tryz.func42, Tryz.ntmps42
    go_wp2_with fail
    refine (fault_no wd _ false p fb 0 _ ⟨_, _, _, rfl⟩ (hF1 _)).mono ?_
    rintro e w1 ⟨rfl, hx, hF2⟩
    go_wp2_with fail
    exact bodyPost_ret (v := .tuple #[]) (by simp [results, Tryz.results42, go_sem]) rfl ⟨rfl, ((Ext.refl (· = fb) w).alloc _).trans' hx, hF2⟩
  | true =>
    have hne : k.len ≠ n := by rcases hb with h | h; cases h; exact h
    have hb1 : ((k.len : Int) == (n : Int)) = false := by simp; omega
    have hb2 : ((k.len : Int) != (n : Int)) = true := by simp [bne, hb1]
    clear hne hb
    go_enter Tryz.func42, Tryz.ntmps42
    go_wp2_with fail
    refine (fault_no wd _ true p fb 0 _ ⟨_, _, _, rfl⟩ (hF1 _)).mono ?_
    rintro e w1 ⟨rfl, hx, hF2⟩
    go_wp2_with fail
    exact bodyPost_ret (v := .tuple #[]) (by simp [results, Tryz.results42, go_sem]) rfl ⟨rfl, ((Ext.refl (· = fb) w).alloc _).trans' hx, hF2⟩

set_option maxHeartbeats 1000000 in
theorem parts_ok {B : Nat} (M : Nat → Prop) (Inv : Nat → World → Prop) (Bad : World → Prop) (fns : List (Nat × Array Value)) (wd : ByteArray) (kv : Value) (p : Int) (fb : Nat) (k : F) (rb : Nat) (tr : TypeId) (w : World)
    (hk : Sl (· < B) w kv k) (hR : Blk w rb ((fns.map fun x => Value.func (.func x.1) #[] x.2).toArray) tr) (hlen : k.len = fns.length) (hn : (fns.length : Int) ≤ 100)
    (hMB : ∀ b, M b → B ≤ b) (hMr : ¬ M rb) (hMl : ∀ b, M b → b < w.heap.size) (hIF : ∀ i w, Inv i w → Fst w fb false 0) (hBF : ∀ w, Bad w → ∃ q, Fst w fb true q)
    (hIx : ∀ i w w', Inv i w → Ext (fun _ => False) w w' → Inv i w') (hBx : ∀ w w', Bad w → Ext (fun _ => False) w w' → Bad w') (h0 : Inv 0 w)
    (hent : ∀ i (h : i < fns.length), ∀ args w, (callFunc fns[i].1 args).run Tryz.prog w = .ok (.enter fns[i].1 args) w)
    (step : ∀ i (h : i < fns.length) wd1 r1 p1 k1 kv1 w1, k.get i = some (wd1, r1, p1, k1) → Ext M w w1 → Inv i w1 → Sl (· < B) w1 kv1 k1 → wd1.size ≤ maxLen →
      Calls Tryz.prog fns[i].1 (#[nodeV wd1 kv1 r1 p1 fb] ++ fns[i].2) w1 fun e w2 => e = .returned (.tuple #[]) ∧ Ext M w1 w2 ∧ (Inv (i + 1) w2 ∨ Bad w2)) :
    Calls Tryz.prog 42 #[nodeV wd kv true p fb, .slice (some ⟨rb, 0, none⟩) fns.length fns.length] w fun e w' => e = .returned (.tuple #[]) ∧ Ext M w w' ∧ (Inv fns.length w' ∨ Bad w') := by
  obtain ⟨a, cap, rfl, h1, h2⟩ := hk.shape
  unfold maxLen at h2
  unfold nodeV at *
  have HGS := Lib.hid (fun (i : Nat) (hi : i < fns.length) => F.get_some (f := k) (i := i) (by omega))
  rw [hlen] at *
  have hN := NodeIn.new w wd (.slice a fns.length cap) true p fb
  have hx1 := (Ext.refl M w).alloc (.cells #[.string wd, .slice a fns.length cap, .bool true, .int .i64 p, .pointer (some ⟨fb, 0, none⟩)] 57)
  have hxf := (Ext.refl (fun _ => False) w).alloc (.cells #[.string wd, .slice a fns.length cap, .bool true, .int .i64 p, .pointer (some ⟨fb, 0, none⟩)] 57)
  have hlr := hR.lt
  have hR1 := hR.ext hxf id
  have hI1 := hIx 0 _ _ h0 hxf
  have HSTEP := Lib.hid step
  have HENT := Lib.hid hent
  have HIF := Lib.hid hIF
  have HBF := Lib.hid hBF
  have HIX := Lib.hid hIx
  have HBX := Lib.hid hBx
  have HMB := Lib.hid hMB
  have HML := Lib.hid hMl
  have HK := Lib.hid hk
  clear step hent hIF hBF hIx hBx hMB hMl hk
  have z1 : ((fns.length : Int) == (fns.length : Int)) = true := by simp
  have z2 : ((fns.length : Int) != (fns.length : Int)) = false := by simp
  go_enter Tryz.func42, Tryz.ntmps42
  go_wp2_with fail
  generalize w.alloc (.cells #[.string wd, .slice a fns.length cap, .bool true, .int .i64 p, .pointer (some ⟨fb, 0, none⟩)] 57) = w1 at *
  generalize hnbe : w.heap.size = nb at *
  have HNB := Lib.hid hnbe
  clear hnbe
  have hNM : ¬ M nb := fun h => by have := HML.out nb h; have := HNB.out; omega
  go_loopg [23] fns.length (fun q cv wr => ∃ i : Nat, cv = .int .i64 i ∧ i ≤ fns.length ∧ q = fns.length - i ∧ Ext M w1 wr ∧ Hid (Inv i wr ∨ Bad wr))
  case atStart => exact ⟨0, rfl, by omega, rfl, Ext.refl _ _, Lib.hid (.inl hI1)⟩
  case round =>
    obtain ⟨i, rfl, hi, rfl, hx, HI⟩ := hrel
    by_cases hlt : i < fns.length
    · have i0 : (0 : Int) ≤ (i : Int) := by omega
      have i1 : (i : Int) < (fns.length : Int) := by omega
      have hxw := hx1.trans' hx
      have hNr := (hN.ext hx hNM).cells
      have hRr : wr.cell? ⟨rb, i, none⟩ = some (.func (.func fns[i].1) #[] fns[i].2) := by
        rw [(hR1.ext hx hMr).cell i]
        simp [hlt]
      obtain ⟨n0, n1, n2, n3, n4⟩ := hNr
      rcases HI.out with hI | hB
      · have hF := HIF.out _ _ hI
        obtain ⟨c0, c1⟩ := hF.cells
        have hks := HK.out.ext hxw (fun b hb hM => by have := HMB.out b hM; omega)
        obtain ⟨wd1, r1, p1, k1, hget⟩ := HGS.out i hlt
        have HG := Lib.hid hget
        have HX := Lib.hid hx
        have HXW := Lib.hid hxw
        have HIH := Lib.hid hI
        have HKS := Lib.hid hks
        have HF := Lib.hid hF
        clear hget hx hxw hI hks hF HI
        go_wp2_with fail
        refine (kid_any wd _ true p fb k i wd1 r1 p1 k1 _ HKS.out HG.out).mono ?_
        rintro e w2 ⟨kv1, rfl, hx2, hs1, hsz⟩
        have he := HENT.out i hlt
        clear hRr n0 n1 n2 n3 n4 c0 c1
        unfold nodeV at *
        go_wp2_with fail
        have hx2m : Ext M wr w2 := hx2.mono (fun _ _ h => h.elim)
        refine (HSTEP.out i hlt wd1 r1 p1 k1 kv1 _ HG.out (HXW.out.trans' hx2m) (HIX.out _ _ _ HIH.out hx2) hs1 hsz).mono ?_
        rintro e w3 ⟨rfl, hx3, hor⟩
        have hx13 := (HX.out.trans' hx2m).trans' hx3
        have HO := Lib.hid hor
        clear he hx2 hs1 hx2m hx3 hor
        go_wp2_with fail
        go_roundg (fns.length - (i + 1))
        case measure => omega
        case rel => exact ⟨i + 1, by simp, by omega, rfl, hx13, HO⟩
      · obtain ⟨q, hF⟩ := HBF.out _ hB
        obtain ⟨c0, c1⟩ := hF.cells
        have HX := Lib.hid hx
        have HO := Lib.hid hB
        clear hx hB HI hxw hF
        go_wp2_with fail
        go_roundg (fns.length - (i + 1))
        case measure => omega
        case rel => exact ⟨i + 1, by simp, by omega, rfl, HX.out, Lib.hid (.inr HO.out)⟩
    · obtain rfl : i = fns.length := by omega
      have hxw := hx1.trans' hx
      go_wp2_with fail
      go_end0
      exact ⟨rfl, hxw, HI.out⟩

end Go.Proofs.YtmcinpeplkkpfaaGreatDoor

namespace Go.Proofs.YtmcinpeplkkpfaaGreatDoor
namespace F
def size : F → Nat | .nil => 0 | .cons _ _ _ k t => k.size + t.size + 1

def shape : F → F → Bool
  | .nil, .nil => true
  | .cons wd r _ k t, .cons wd' r' _ k' t' => wd.data.toList == wd'.data.toList && r == r' && k.shape k' && t.shape t'
  | _, _ => false

theorem len_le_size : ∀ f : F, f.len ≤ f.size
  | .nil => Nat.le_refl _
  | .cons _ _ _ k t => by have := len_le_size t; simp [len, size]; omega

end F
end Go.Proofs.YtmcinpeplkkpfaaGreatDoor

namespace Go.Proofs.YtmcinpeplkkpfaaGreatDoor
open Go.RowKit
set_option linter.unusedVariables false
def F.dropN : F → Nat → F
  | f, 0 => f
  | .nil, _ + 1 => .nil
  | .cons _ _ _ _ t, i + 1 => t.dropN i

theorem F.dropN_get : ∀ {f : F} {i : Nat} {wd r p k}, f.get i = some (wd, r, p, k) → f.dropN i = .cons wd r p k (f.dropN (i + 1))
  | .cons _ _ _ _ t, 0, _, _, _, _, h => by
    simp only [F.get, Option.some.injEq, Prod.mk.injEq] at h
    obtain ⟨rfl, rfl, rfl, rfl⟩ := h
    cases t <;> rfl
  | .cons _ _ _ _ t, i + 1, _, _, _, _, h => by
    have := F.dropN_get (f := t) (i := i) h
    simpa [F.dropN] using this

theorem F.dropN_end : ∀ {f : F} {i : Nat}, f.len ≤ i → f.dropN i = .nil
  | .nil, 0, _ => rfl
  | .nil, _ + 1, _ => rfl
  | .cons _ _ _ _ t, 0, h => by simp [F.len] at h
  | .cons _ _ _ _ t, i + 1, h => F.dropN_end (f := t) (by simpa [F.len] using h)

theorem F.get_size : ∀ {f : F} {i : Nat} {wd r p k}, f.get i = some (wd, r, p, k) → k.size < f.size
  | .cons _ _ _ _ t, 0, _, _, _, _, h => by
    simp only [F.get, Option.some.injEq, Prod.mk.injEq] at h
    obtain ⟨rfl, rfl, rfl, rfl⟩ := h
    simp [F.size]; omega
  | .cons _ _ _ _ t, i + 1, _, _, _, _, h => by
    have := F.get_size (f := t) (i := i) h
    simp [F.size]; omega

def preR {α : Type} (l : List α) : RR (List α) → RR (List α)
  | .ok l' => .ok (l ++ l')
  | .error e => .error e

theorem preR_nil {α : Type} (x : RR (List α)) : preR [] x = x := by cases x <;> rfl

theorem preR_cons {α : Type} (l : List α) (f : ByteArray → Bool → Int → F → RR α) {k : F} {j : Nat} {wd r p k1} (h : k.get j = some (wd, r, p, k1)) {a : α} (ha : f wd r p k1 = .ok a) :
    preR l (eachS f (k.dropN j)) = preR (l ++ [a]) (eachS f (k.dropN (j + 1))) := by
  rw [F.dropN_get h, eachS, ha]
  cases eachS f (k.dropN (j + 1)) with
  | error e => rfl
  | ok l' => simp [preR]

theorem preR_err {α : Type} (l : List α) (f : ByteArray → Bool → Int → F → RR α) {k : F} {j : Nat} {wd r p k1} (h : k.get j = some (wd, r, p, k1)) {q : Int} (ha : f wd r p k1 = .error q) :
    preR l (eachS f (k.dropN j)) = .error q := by
  rw [F.dropN_get h, eachS, ha]; rfl

theorem preR_end {α : Type} (l : List α) (f : ByteArray → Bool → Int → F → RR α) {k : F} {j : Nat} (h : k.len ≤ j) : preR l (eachS f (k.dropN j)) = .ok l := by
  rw [F.dropN_end h, eachS]; simp [preR]

structure LU {α : Type} (enc : α → U) (lu : List α → U) : Prop where
  nil : lu [] = .nil
  snoc : ∀ l a, lu (l ++ [a]) = (lu l).app (enc a)

theorem LU.of {α : Type} {enc : α → U} {lu : List α → U} (h0 : lu [] = .nil) (h : ∀ a l, lu (a :: l) = (enc a).app (lu l)) : LU enc lu := by
  refine ⟨h0, fun l a => ?_⟩
  induction l with
  | nil => rw [List.nil_append, h, h0, U.app_nil]; rfl
  | cons b l ih => rw [List.cons_append, h, h, ih, U.app_assoc]

def ReadsKids (B fb : Nat) (g : Nat) (shp : List Value → Prop) (mk : List Value → Value) {α : Type} (enc : α → U) (f : ByteArray → Bool → Int → F → RR α) (k : F) : Prop :=
  (∀ args w, (callFunc g args).run Tryz.prog w = .ok (.enter g args) w) ∧
  ∀ i wd1 r1 p1 k1 kv1 w1, k.get i = some (wd1, r1, p1, k1) → B ≤ w1.heap.size → Fst w1 fb false 0 → Sl (· < B) w1 kv1 k1 → wd1.size ≤ maxLen →
    Calls Tryz.prog g #[nodeV wd1 kv1 r1 p1 fb] w1 (RdPost fb shp mk enc (f wd1 r1 p1 k1) w1)

theorem elt_of {P : Program} {t e size bytes : Nat} (ht : P.underlying t = some (.slice e)) (h : (P.info? e).any (fun i => i.zero.any (fun z => z.cells.size == size) && i.size == size && i.bytes == bytes) = true) (hs : 0 < size) : Elt P t e size bytes := by
  cases hi : P.info? e with
  | none => rw [hi] at h; cases h
  | some i =>
    rw [hi] at h
    simp only [Option.any_some, Bool.and_eq_true, beq_iff_eq] at h
    obtain ⟨⟨h1, h2⟩, h3⟩ := h
    cases hz : i.zero with
    | none => rw [hz] at h1; cases h1
    | some z =>
      rw [hz] at h1
      simp only [Option.any_some, beq_iff_eq] at h1
      exact ⟨i, z, ht, hi, hz, h2, h3, h1, hs⟩

theorem Blk.grewF {w w' : World} {b : Nat} {cs : Array Value} {t : TypeId} {v v' : Value} (h : Blk w b cs t) (hg : Grew v v' w w') (hv : ¬ v.ownBlock = some b) : Blk w' b cs t :=
  (hg.by_.block b h.lt (fun e => hv e.symm)).trans h

def RestInv (fb : Nat) (base e size : Nat) {α : Type} (lu : List α → U) (f : ByteArray → Bool → Int → F → RR α) (k : F) (from_ j : Nat) (v : Value) (w : World) : Prop :=
  ∃ n xs, w.ownsRow base e size v n xs ∧ n ≤ j ∧
    ((∃ l, l.length = n ∧ Fst w fb false 0 ∧ Rep (fun b => base ≤ b ∧ v.ownBlock ≠ some b) w (lu l) xs ∧ eachS f (k.dropN from_) = preR l (eachS f (k.dropN j))) ∨
     (∃ q, Fst w fb true q ∧ eachS f (k.dropN from_) = .error q))

theorem RestInv.sl {fb base e size : Nat} {α : Type} {lu : List α → U} {f : ByteArray → Bool → Int → F → RR α} {k : F} {from_ j : Nat} {v : Value} {w : World} (h : RestInv fb base e size lu f k from_ j v w) : ∃ a n c, v = .slice a n c := by
  obtain ⟨n, xs, hown, _⟩ := h
  rcases hown.2 with ⟨rfl, _⟩ | ⟨g0, cap0, _, rfl, _⟩
  · exact ⟨_, _, _, rfl⟩
  · exact ⟨_, _, _, rfl⟩

end Go.Proofs.YtmcinpeplkkpfaaGreatDoor
