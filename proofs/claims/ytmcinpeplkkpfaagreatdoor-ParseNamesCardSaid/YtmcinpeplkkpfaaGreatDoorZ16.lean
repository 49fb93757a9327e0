/- Texts put together by wip/shake.py: PTermE, PTermG, PSlots, PSlot, PSlots2: the walks and the laws that the claim's last theorem rests on. -/
import Derived.Test.YtmcinpeplkkpfaaGreatDoorZ15
import Derived.Test.YtmcinpeplkkpfaaGreatDoorZ10
import Derived.Test.YtmcinpeplkkpfaaGreatDoorZ13
import Derived.Test.YtmcinpeplkkpfaaGreatDoorZ9
import Derived.Shelf.Abstract
namespace Go.Proofs.YtmcinpeplkkpfaaGreatDoor
open Go.RowKit
set_option linter.unusedVariables false
set_option linter.unusedSimpArgs false
set_option maxRecDepth 100000 in
set_option maxHeartbeats 6000000 in
theorem term_fun_ok {n B : Nat} (ih : TermC n) (wd : ByteArray) (kv : Value) (p : Int) (fb : Nat) (k : F) (w : World) (hkn : k.size ≤ n) (hks : k.size ≤ 262144) (hB : B ≤ w.heap.size) (hfb : B ≤ fb) (hF : Fst w fb false 0) (hk : Sl (· < B) w kv k) (hs : (headW true k).size ≤ maxLen)
    (hform : formV (headW true k) = .tuple #[.agg #[.int .u8 0, .int .i64 0], .bool false]) (e1 : wIs (headW true k) [42] = false) (e2 : wIs (headW true k) [107, 97, 112, 112, 97] = false) (hfun : isFun (headW true k) = true) (hgood : k.len = 2) :
    Calls Tryz.prog 27 #[nodeV wd kv true p fb] w (RdPost fb (shpN 5) mkAgg encTm (tmR 7 (headW true k) (termsS (k.dropN 1))) w) := by
  have hkl := F.len_le_size k
  have HHD := Lib.hid (fun w' (hx : Ext (fun _ => False) w w') => head_any wd kv true p fb k w' (hk.ext hx (fun _ _ h => h)))
  have HRS := Lib.hid (fun w' (hx : Ext (fun _ => False) w w') => restTm_any (B := B) 27 encTm tmsU (fun wd r p k => termS k wd r p) 1 wd kv true p fb k w' (Nat.le_trans hB hx.size) hfb (Fst.ext hF hx id) (hk.ext hx (fun _ _ h => h)) hks (by omega) luTm (termC_kids ih hkn hks hfb))
  obtain ⟨a, cap, rfl, h1, h2⟩ := hk.shape
  have HFN := Lib.hid (fun w => function_any (headW true k) w hs)
  rw [hfun] at HFN
  clear hfun
  obtain ⟨res, hres0⟩ : ∃ res, res = tmR 7 (headW true k) (eachS (fun wd r p k => termS k wd r p) (k.dropN 1)) := ⟨_, rfl⟩
  rw [terms_each, ← hres0]
  have HRES := Lib.hid hres0
  have HSS := Lib.hid hs
  have HGOOD := Lib.hid hgood
  clear hres0 hs hgood
  generalize headW true k = s at *
  rw [wIs_iff] at e1 e2
  have e1' : ¬ s.toList = [42] := by simpa using e1
  have e2' : ¬ s.toList = [107, 97, 112, 112, 97] := by simpa using e2
  have hm := form_make
  have s0 := fun w => form_step w 0 (⟨#[43]⟩ : ByteArray) _ rfl rfl
  have s1 := fun w => form_step w 1 (⟨#[61]⟩ : ByteArray) _ rfl rfl
  have s2 := fun w => form_step w 2 (⟨#[60, 61]⟩ : ByteArray) _ rfl rfl
  have s3 := fun w => form_step w 3 (⟨#[110, 111, 116]⟩ : ByteArray) _ rfl rfl
  have s4 := fun w => form_step w 4 (⟨#[97, 110, 100]⟩ : ByteArray) _ rfl rfl
  have s5 := fun w => form_step w 5 (⟨#[111, 114]⟩ : ByteArray) _ rfl rfl
  have s6 := fun w => form_step w 6 (⟨#[105, 102, 102]⟩ : ByteArray) _ rfl rfl
  have sq := fun w => form_ask w s
  rw [hform] at sq
  simp only [Nat.zero_add, Nat.reduceAdd] at s0 s1 s2 s3 s4 s5 s6
  have hx1 := (Ext.refl (fun _ => False) w).alloc (.cells #[.string wd, .slice a k.len cap, .bool true, .int .i64 p, .pointer (some ⟨fb, 0, none⟩)] 57)
  have hx2 := hx1.alloc (.cells #[.int .u8 0, .string ⟨#[]⟩, .bool false, .slice none 0 0, .slice none 0 0] 41)
  have hb2 := Blk.new (w.alloc (.cells #[.string wd, .slice a k.len cap, .bool true, .int .i64 p, .pointer (some ⟨fb, 0, none⟩)] 57)) #[.int .u8 0, .string ⟨#[]⟩, .bool false, .slice none 0 0, .slice none 0 0] 41
  have hn2 := (NodeIn.new w wd (.slice a k.len cap) true p fb).alloc (.cells #[.int .u8 0, .string ⟨#[]⟩, .bool false, .slice none 0 0, .slice none 0 0] 41)
  have hz : (w.alloc (.cells #[.string wd, .slice a k.len cap, .bool true, .int .i64 p, .pointer (some ⟨fb, 0, none⟩)] 57)).heap.size = w.heap.size + 1 := by simp
  have hz2 : ((w.alloc (.cells #[.string wd, .slice a k.len cap, .bool true, .int .i64 p, .pointer (some ⟨fb, 0, none⟩)] 57)).alloc (.cells #[.int .u8 0, .string ⟨#[]⟩, .bool false, .slice none 0 0, .slice none 0 0] 41)).heap.size = w.heap.size + 2 := by simp
  rw [hz] at hb2
  have hF2 := Fst.ext hF hx2 id
  have hfl := Blk.lt hF
  have HZ2 := Lib.hid hz2
  clear hz hz2 hk h1 h2 hx1
  unfold nodeV at *
  clear hform
  go_enter Tryz.func27, Tryz.ntmps27
  go_wp2_with fail
  refine (HHD.out _ hx2).mono ?_
  rintro e w3 ⟨rfl, hx3⟩
  have hb3 := hb2.ext hx3 id
  have hn3 := NodeIn.ext hn2 hx3 id
  have HF3 := Lib.hid (Fst.ext hF2 hx3 id)
  have HX3 := Lib.hid (hx2.trans' hx3)
  have hs3 := hx3.size
  rw [HZ2.out] at hs3
  have l0 : w.heap.size < w3.heap.size := by omega
  have l1 : w.heap.size + 1 < w3.heap.size := by omega
  have c0 := hb3.cell 0
  have c1 := hb3.cell 1
  have c2 := hb3.cell 2
  have c3 := hb3.cell 3
  have c4 := hb3.cell 4
  have f0 := hb3.frozen 0
  have f1 := hb3.frozen 1
  have f2 := hb3.frozen 2
  have f3 := hb3.frozen 3
  have f4 := hb3.frozen 4
  simp only [List.getElem?_toArray, List.getElem?_cons_zero, List.getElem?_cons_succ] at c0 c1 c2 c3 c4
  obtain ⟨n0, n1, n2, n3', n4⟩ := hn3.cells
  clear hx2 hb2 hn2 hF2 hx3
  have hsp := Blk.new (w3.alloc (formE 7)) #[.int .u8 0, .int .i64 0] 170
  have hz4 : (w3.alloc (formE 7)).heap.size = w3.heap.size + 1 := by simp
  rw [hz4] at hsp
  have hb4 := (hb3.alloc (formE 7)).alloc (.cells #[.int .u8 0, .int .i64 0] 170)
  have hn4 := Blk.alloc (Blk.alloc hn3 (formE 7)) (.cells #[.int .u8 0, .int .i64 0] 170)
  have hF4 := Blk.alloc (Blk.alloc HF3.out (formE 7)) (.cells #[.int .u8 0, .int .i64 0] 170)
  have hX4 := (HX3.out.alloc (formE 7)).alloc (.cells #[.int .u8 0, .int .i64 0] 170)
  have hz5 : ((w3.alloc (formE 7)).alloc (.cells #[.int .u8 0, .int .i64 0] 170)).heap.size = w3.heap.size + 2 := by simp
  have HSP := Lib.hid hsp
  have HB4 := Lib.hid hb4
  have HN4 := Lib.hid hn4
  have HF4 := Lib.hid hF4
  have HX4 := Lib.hid hX4
  have HZ5 := Lib.hid hz5
  clear hsp hz4 hb4 hn4 hF4 hX4 hz5 hb3 hn3
  go_wp2_with fail
  refine (HFN.out _).mono ?_
  rintro e w4' ⟨rfl, hx4'⟩
  have hs4' := hx4'.size
  rw [HZ5.out] at hs4'
  have hb5 := HB4.out.ext hx4' id
  have hn5 := NodeIn.ext HN4.out hx4' id
  have hsp5 := HSP.out.ext hx4' id
  have p0 := hsp5.cell 0
  have p1 := hsp5.cell 1
  have pf0 := hsp5.frozen 0
  have pf1 := hsp5.frozen 1
  simp only [List.getElem?_toArray, List.getElem?_cons_zero, List.getElem?_cons_succ] at p0 p1
  have HZ6 : Hid (w3.heap.size + 2 ≤ w4'.heap.size) := Lib.hid hs4'
  have hX6 := ((((HX4.out.mono (M' := fun _ => False) (fun _ _ h => h)).trans' hx4').setCell (p := ⟨w3.heap.size + 1, 0, none⟩) (fun h => by have h : w3.heap.size + 1 < w.heap.size := h; omega) (.int .u8 7)).setCell (p := ⟨w3.heap.size + 1, 1, none⟩) (fun h => by have h : w3.heap.size + 1 < w.heap.size := h; omega) (.int .i64 1)).setCell (p := ⟨w.heap.size + 1, 1, none⟩) (fun h => by have h : w.heap.size + 1 < w.heap.size := h; omega) (.string s)
  have hF6 : Fst (((w4'.setCell ⟨w3.heap.size + 1, 0, none⟩ (.int .u8 7)).setCell ⟨w3.heap.size + 1, 1, none⟩ (.int .i64 1)).setCell ⟨w.heap.size + 1, 1, none⟩ (.string s)) fb false 0 := (((Fst.ext HF4.out hx4' id).setOther ⟨w3.heap.size + 1, 0, none⟩ (by simp; omega) _).setOther ⟨w3.heap.size + 1, 1, none⟩ (by simp; omega) _).setOther ⟨w.heap.size + 1, 1, none⟩ (by simp; omega) _
  have hn6 : NodeIn (((w4'.setCell ⟨w3.heap.size + 1, 0, none⟩ (.int .u8 7)).setCell ⟨w3.heap.size + 1, 1, none⟩ (.int .i64 1)).setCell ⟨w.heap.size + 1, 1, none⟩ (.string s)) w.heap.size wd (.slice a k.len cap) true p fb := Blk.setOther (Blk.setOther (Blk.setOther hn5 ⟨w3.heap.size + 1, 0, none⟩ (by simp; omega) _) ⟨w3.heap.size + 1, 1, none⟩ (by simp; omega) _) ⟨w.heap.size + 1, 1, none⟩ (by simp) _
  have hsp6 := Blk.setOther ((hsp5.set 0 (.int .u8 7)).set 1 (.int .i64 1)) ⟨w.heap.size + 1, 1, none⟩ (by simp; omega) (.string s)
  have hb6 := (Blk.setOther (Blk.setOther hb5 ⟨w3.heap.size + 1, 0, none⟩ (by simp; omega) (.int .u8 7)) ⟨w3.heap.size + 1, 1, none⟩ (by simp; omega) (.int .i64 1)).set 1 (.string s)
  have hz6 : (((w4'.setCell ⟨w3.heap.size + 1, 0, none⟩ (.int .u8 7)).setCell ⟨w3.heap.size + 1, 1, none⟩ (.int .i64 1)).setCell ⟨w.heap.size + 1, 1, none⟩ (.string s)).heap.size = w4'.heap.size := by simp [World.setCell]
  simp only [List.setIfInBounds_toArray, List.set_cons_succ, List.set_cons_zero] at hsp6 hb6
  have l2 : w.heap.size < w4'.heap.size := by omega
  have l3 : w.heap.size + 1 < w4'.heap.size := by omega
  have l4 : w3.heap.size + 1 < w4'.heap.size := by omega
  clear c0 c1 c2 c3 c4 f0 f1 f2 f3 f4 n0 n1 n2 n3' n4 hm s0 s1 s2 s3 s4 s5 s6 sq hsp5
  have c0 := hb5.cell 0
  have c1 := hb5.cell 1
  have c2 := hb5.cell 2
  have c3 := hb5.cell 3
  have c4 := hb5.cell 4
  have f0 := hb5.frozen 0
  have f1 := hb5.frozen 1
  have f2 := hb5.frozen 2
  have f3 := hb5.frozen 3
  have f4 := hb5.frozen 4
  simp only [List.getElem?_toArray, List.getElem?_cons_zero, List.getElem?_cons_succ] at c0 c1 c2 c3 c4
  obtain ⟨n0, n1, n2, n3', n4⟩ := hn5.cells
  have HSP6 := Lib.hid hsp6
  have HB6 := Lib.hid hb6
  have HN6 := Lib.hid hn6
  have HF6 := Lib.hid hF6
  have HX6 := Lib.hid hX6
  have HZ7 := Lib.hid hz6
  clear hsp6 hb6 hn6 hF6 hX6 hz6 hb5 hn5 hx4' hs4' HSP HB4 HN4 HF4 HX4 HZ5
  have hgood := HGOOD.out
  have g2 : ((k.len : Int) == 2) = true := by simp; omega
  have g3 : ((k.len : Int) != 2) = false := by simp; omega
  clear hgood
  go_wp2_with fail
  clear c0 c1 c2 c3 c4 f0 f1 f2 f3 f4 n0 n1 n2 n3' n4 p0 p1 pf0 pf1
  have HZ5 : Hid (w3.heap.size + 2 ≤ (((w4'.setCell ⟨w3.heap.size + 1, 0, none⟩ (.int .u8 7)).setCell ⟨w3.heap.size + 1, 1, none⟩ (.int .i64 1)).setCell ⟨w.heap.size + 1, 1, none⟩ (.string s)).heap.size) := Lib.hid (by rw [HZ7.out]; exact HZ6.out)
  clear HZ6 HZ7
  generalize ((w4'.setCell ⟨w3.heap.size + 1, 0, none⟩ (.int .u8 7)).setCell ⟨w3.heap.size + 1, 1, none⟩ (.int .i64 1)).setCell ⟨w.heap.size + 1, 1, none⟩ (.string s) = w4 at *
  clear l2 l3 l4
  generalize w3.heap.size = b3 at *
  have HSP : Hid (Blk w4 (b3 + 1) #[.int .u8 7, .int .i64 1] 170) := HSP6
  have HB4 : Hid (Blk w4 (w.heap.size + 1) #[.int .u8 0, .string s, .bool false, .slice none 0 0, .slice none 0 0] 41) := HB6
  have HN4 : Hid (NodeIn w4 w.heap.size wd (.slice a k.len cap) true p fb) := HN6
  have HF4 : Hid (Fst w4 fb false 0) := HF6
  have HX4 : Hid (Ext (fun _ => False) w w4) := HX6
  clear HSP6 HB6 HN6 HF6 HX6
  obtain ⟨m0, m1, m2, m3, m4⟩ := NodeIn.cells HN4.out
  have HNB : w.heap.size + 1 ≠ fb ∧ w.heap.size ≠ fb ∧ b3 + 1 ≠ fb ∧ b3 + 1 ≠ w.heap.size + 1 := by omega
  haveI ne : Nonempty (Wd (fun x => Ext (fun b => b = fb ∨ b = w.heap.size + 1) w4 x)) := ⟨⟨w4, Ext.refl _ _⟩⟩
  have q0 : ∀ x : Wd (fun x => Ext (fun b => b = fb ∨ b = w.heap.size + 1) w4 x), x.w.cell? ⟨b3 + 1, 0, none⟩ = some (.int .u8 7) := fun x => x.ok.cellSome (by simpa using HSP.out.cell 0) (fun h => by simp at h; omega)
  have q1 : ∀ x : Wd (fun x => Ext (fun b => b = fb ∨ b = w.heap.size + 1) w4 x), x.w.cell? ⟨w.heap.size, 0, none⟩ = some (.string wd) := fun x => x.ok.cellSome m0 (fun h => by simp at h; omega)
  have q2 : ∀ x : Wd (fun x => Ext (fun b => b = fb ∨ b = w.heap.size + 1) w4 x), x.w.cell? ⟨w.heap.size, 1, none⟩ = some (.slice a k.len cap) := fun x => x.ok.cellSome m1 (fun h => by simp at h; omega)
  have q3 : ∀ x : Wd (fun x => Ext (fun b => b = fb ∨ b = w.heap.size + 1) w4 x), x.w.cell? ⟨w.heap.size, 2, none⟩ = some (.bool true) := fun x => x.ok.cellSome m2 (fun h => by simp at h; omega)
  have q4 : ∀ x : Wd (fun x => Ext (fun b => b = fb ∨ b = w.heap.size + 1) w4 x), x.w.cell? ⟨w.heap.size, 3, none⟩ = some (.int .i64 p) := fun x => x.ok.cellSome m3 (fun h => by simp at h; omega)
  have q5 : ∀ x : Wd (fun x => Ext (fun b => b = fb ∨ b = w.heap.size + 1) w4 x), x.w.cell? ⟨w.heap.size, 4, none⟩ = some (.pointer (some ⟨fb, 0, none⟩)) := fun x => x.ok.cellSome m4 (fun h => by simp at h; omega)
  clear m0 m1 m2 m3 m4
  refine wp_region_steps (S := fun x => Ext (fun b => b = fb ∨ b = w.heap.size + 1) w4 x) [([0, 1, 2], [3]), ([4], [5]), ([6], [])] _ (by kernel_rfl) (by kernel_rfl) rfl (by kernel_rfl) (fun _ d _ _ _ h => by cases d <;> exact h) (Ext.refl _ _).drew ?_
  simp only [segOps, List.filterMap_cons, List.filterMap_nil, List.getElem?_cons_zero, List.getElem?_cons_succ]
  refine wpSegs_cons ?_
  change wpQuiet _ _ _ _ (_ :: _ :: _ :: []) _
  repeat (go_big_quiet_step (fail))
  refine wpQuiet_nil ?_
  refine wpLoud_step rfl (fun K hK => ?_)
  go_simp
  refine (HRS.out _ HX4.out.drew).mono ?_
  rintro e w5 ⟨hx5, xs, rfl, hsh, hres⟩
  have hx5' : Ext (· = fb) w4 w5 := ⟨hx5.os, hx5.tape, hx5.output, hx5.size, hx5.block⟩
  obtain ⟨a9, n9, cap9, rfl⟩ := hsh
  simp only [mkOne] at *
  have hb5 := HB4.out.ext hx5' HNB.1
  have HB5 := Lib.hid hb5
  have HX5 := Lib.hid hx5'
  have HR5 := Lib.hid hres
  refine hK _ _ (hx5'.mono (fun _ _ h => .inl h)) ?_
  clear hK hx5 hx5' hres
  refine wpLoud_nil ?_
  refine wpSegs_cons ?_
  change wpQuiet _ _ _ _ (_ :: []) _
  repeat (go_big_quiet_step (fail))
  refine wpQuiet_nil ?_
  refine wpLoud_step rfl (fun K hK => ?_)
  have c0 := HB5.out.cell 0
  have f0 := HB5.out.frozen 0
  simp only [List.getElem?_toArray, List.getElem?_cons_zero, List.getElem?_cons_succ] at c0
  go_simp
  refine hK _ _ ((HX5.out.mono (fun _ _ h => .inl h)).setCell (p := ⟨w.heap.size + 1, 0, none⟩) (fun _ => .inr rfl) _) ?_
  clear hK
  refine wpLoud_nil ?_
  refine wpSegs_cons ?_
  change wpQuiet _ _ _ _ (_ :: []) _
  repeat (go_big_quiet_step (fail))
  refine wpQuiet_nil ?_
  refine wpLoud_nil ?_
  refine wpSegs_nil ?_
  clear q0 q1 q2 q3 q4 q5 ne c0 f0
  have hb6 := HB5.out.set 0 (.int .u8 7)
  have HX6 : Hid (Ext (· = fb) w (w5.setCell ⟨w.heap.size + 1, 0, none⟩ (.int .u8 7))) := Lib.hid (((HX4.out.mono (M' := (· = fb)) (fun _ _ h => h.elim)).trans' HX5.out).setCell (p := ⟨w.heap.size + 1, 0, none⟩) (fun h => by have h : w.heap.size + 1 < w.heap.size := h; omega) _)
  have hz6 : w.heap.size + 1 < w4.heap.size := by have := HZ5.out; omega
  have HR6 : Hid (match (eachS (fun wd r p k => termS k wd r p) (k.dropN 1)) with
    | .ok l => Fst (w5.setCell ⟨w.heap.size + 1, 0, none⟩ (.int .u8 7)) fb false 0 ∧ Rep (fun b => w.heap.size + 2 ≤ b) (w5.setCell ⟨w.heap.size + 1, 0, none⟩ (.int .u8 7)) (.sl l.length (tmsU l) .nil) [.slice a9 n9 cap9]
    | .error q => Fst (w5.setCell ⟨w.heap.size + 1, 0, none⟩ (.int .u8 7)) fb true q) := by
    have h := HR5.out
    refine Lib.hid ?_
    cases hd : eachS (fun wd r p k => termS k wd r p) (k.dropN 1) with
    | ok l =>
      rw [hd] at h
      exact ⟨Fst.setOther h.1 ⟨w.heap.size + 1, 0, none⟩ HNB.1 _, Rep.setOther (h.2.mono (D' := fun b => w.heap.size + 2 ≤ b) (fun b hb _ => by have hb : w4.heap.size ≤ b := hb; omega)) ⟨w.heap.size + 1, 0, none⟩ (by simp) _⟩
    | error q =>
      rw [hd] at h
      exact Fst.setOther h ⟨w.heap.size + 1, 0, none⟩ HNB.1 _
  generalize w5.setCell ⟨w.heap.size + 1, 0, none⟩ (.int .u8 7) = w6 at *
  simp only [List.setIfInBounds_toArray, List.set_cons_zero] at hb6
  have c0 := hb6.cell 0
  have c1 := hb6.cell 1
  have c2 := hb6.cell 2
  have c3 := hb6.cell 3
  have c4 := hb6.cell 4
  have f0 := hb6.frozen 0
  have f1 := hb6.frozen 1
  have f2 := hb6.frozen 2
  have f3 := hb6.frozen 3
  have f4 := hb6.frozen 4
  simp only [List.getElem?_toArray, List.getElem?_cons_zero, List.getElem?_cons_succ] at c0 c1 c2 c3 c4
  clear hb6
  go_wp2_with fail
  refine bodyPost_ret (v := .agg #[.int .u8 7, .string s, .bool false, .slice none 0 0, .slice a9 n9 cap9]) (by simp [results, Tryz.results27, go_sem, *]) rfl ⟨?_, [.int .u8 7, .string s, .bool false, .slice none 0 0, .slice a9 n9 cap9], rfl, ⟨rfl, by simp [Value.oneCell']⟩, ?_⟩
  · exact (sets_ext (b := w.heap.size + 1) (fun h => by have : w.heap.size + 1 < w.heap.size := h; omega) [.int .u8 7, .string s, .bool false, .slice none 0 0, .slice a9 n9 cap9] 0 _ (HX6.out.setCell (p := ⟨w.heap.size + 1, 4, none⟩) (fun h => by have h : w.heap.size + 1 < w.heap.size := h; omega) _))
  · rw [HRES.out]
    have h := HR6.out
    cases hd : eachS (fun wd r p k => termS k wd r p) (k.dropN 1) with
    | ok l =>
      rw [hd] at h
      exact ⟨sets_blk (b := w.heap.size + 1) HNB.1 [.int .u8 7, .string s, .bool false, .slice none 0 0, .slice a9 n9 cap9] 0 _ (Fst.setOther h.1 ⟨w.heap.size + 1, 4, none⟩ HNB.1 _), (sets_rep (b := w.heap.size + 1) (D := fun b => w.heap.size + 2 ≤ b) (by omega) [.int .u8 7, .string s, .bool false, .slice none 0 0, .slice a9 n9 cap9] 0 _ (Rep.setOther (show Rep (fun b => w.heap.size + 2 ≤ b) w6 (encTm (.mk 7 s .zero l)) [.int .u8 7, .string s, .bool false, .slice none 0 0, .slice a9 n9 cap9] from ⟨_, rfl, _, rfl, HSS.out, zero_cells (u := .sl l.length (tmsU l) .nil) h.2⟩) ⟨w.heap.size + 1, 4, none⟩ (by simp) _)).mono (fun b hb _ => by have : w.heap.size + 2 ≤ b := hb; omega)⟩
    | error q =>
      rw [hd] at h
      exact sets_blk (b := w.heap.size + 1) HNB.1 [.int .u8 7, .string s, .bool false, .slice none 0 0, .slice a9 n9 cap9] 0 _ (Fst.setOther h ⟨w.heap.size + 1, 4, none⟩ HNB.1 _)

end Go.Proofs.YtmcinpeplkkpfaaGreatDoor

namespace Go.Proofs.YtmcinpeplkkpfaaGreatDoor
open Go.RowKit
set_option linter.unusedVariables false
set_option linter.unusedSimpArgs false
def kapR (n : RR ByteArray) (l : RR (List Tm)) : RR Tm := match n with
  | .error e => .error e
  | .ok n => tmR 14 n l

set_option maxRecDepth 100000 in
set_option maxHeartbeats 6000000 in
theorem term_kappa {n B : Nat} (ih : TermC n) (wd : ByteArray) (kv : Value) (p : Int) (fb : Nat) (k : F) (w : World) (hkn : k.size ≤ n) (hks : k.size ≤ 262144) (hB : B ≤ w.heap.size) (hfb : B ≤ fb) (hF : Fst w fb false 0) (hk : Sl (· < B) w kv k) (hws : wd.size ≤ maxLen)
    (e1 : wIs (headW true k) [42] = false) (e2 : wIs (headW true k) [107, 97, 112, 112, 97] = true) {wd1 : ByteArray} {r1 : Bool} {p1 : Int} {k1 : F} (hg1 : k.get 1 = some (wd1, r1, p1, k1)) :
    Calls Tryz.prog 27 #[nodeV wd kv true p fb] w (RdPost fb (shpN 5) mkAgg encTm (kapR (nameS wd1 r1 p1) (termsS (k.dropN 2))) w) := by
  have hkl := F.len_le_size k
  have HHD := Lib.hid (fun w' (hx : Ext (fun _ => False) w w') => head_any wd kv true p fb k w' (hk.ext hx (fun _ _ h => h)))
  obtain ⟨a, cap, rfl, h1, h2⟩ := hk.shape
  have hl1 := F.get_lt hg1
  have HK1 := Lib.hid (fun w' (hx : Ext (fun _ => False) w w') => kid_any wd (.slice a k.len cap) true p fb k 1 wd1 r1 p1 k1 w' (hk.ext hx (fun _ _ h => h)) hg1)
  have HRS := Lib.hid (fun w' (hx : Ext (· = fb) w w') (hF : Fst w' fb false 0) => restTm_any (B := B) 27 encTm tmsU (fun wd r p k => termS k wd r p) 2 wd (.slice a k.len cap) true p fb k w' (Nat.le_trans hB hx.size) hfb hF (hk.ext hx (fun b hb hM => by omega)) hks (by omega) luTm (termC_kids ih hkn hks hfb))
  have HRB := Lib.hid (fun w' q0 (hx : Ext (· = fb) w w') (hF : Fst w' fb true q0) => restTm_bad (B := B) (.func (.func 27) #[] #[]) 2 wd (.slice a k.len cap) true p q0 fb k w' ⟨_, rfl⟩ hF (hk.ext hx (fun b hb hM => by omega)))
  obtain ⟨res, hres0⟩ : ∃ res, res = kapR (nameS wd1 r1 p1) (eachS (fun wd r p k => termS k wd r p) (k.dropN 2)) := ⟨_, rfl⟩
  rw [terms_each, ← hres0]
  have HRES := Lib.hid hres0
  have g2 : decide (2 ≤ (k.len : Int)) = true := by simp; omega
  have g1 : (2 : Int) ≤ (k.len : Int) := by omega
  clear hres0 hg1
  generalize headW true k = s at *
  rw [wIs_iff] at e1 e2
  have e1' : ¬ s.toList = [42] := by simpa using e1
  have e2' : s.toList = [107, 97, 112, 112, 97] := by simpa using e2
  have hx1 := (Ext.refl (fun _ => False) w).alloc (.cells #[.string wd, .slice a k.len cap, .bool true, .int .i64 p, .pointer (some ⟨fb, 0, none⟩)] 57)
  have hx2 := hx1.alloc (.cells #[.int .u8 0, .string ⟨#[]⟩, .bool false, .slice none 0 0, .slice none 0 0] 41)
  have hb2 := Blk.new (w.alloc (.cells #[.string wd, .slice a k.len cap, .bool true, .int .i64 p, .pointer (some ⟨fb, 0, none⟩)] 57)) #[.int .u8 0, .string ⟨#[]⟩, .bool false, .slice none 0 0, .slice none 0 0] 41
  have hn2 := (NodeIn.new w wd (.slice a k.len cap) true p fb).alloc (.cells #[.int .u8 0, .string ⟨#[]⟩, .bool false, .slice none 0 0, .slice none 0 0] 41)
  have hz : (w.alloc (.cells #[.string wd, .slice a k.len cap, .bool true, .int .i64 p, .pointer (some ⟨fb, 0, none⟩)] 57)).heap.size = w.heap.size + 1 := by simp
  have hz2 : ((w.alloc (.cells #[.string wd, .slice a k.len cap, .bool true, .int .i64 p, .pointer (some ⟨fb, 0, none⟩)] 57)).alloc (.cells #[.int .u8 0, .string ⟨#[]⟩, .bool false, .slice none 0 0, .slice none 0 0] 41)).heap.size = w.heap.size + 2 := by simp
  rw [hz] at hb2
  have hF2 := Fst.ext hF hx2 id
  have hfl := Blk.lt hF
  have HZ2 := Lib.hid hz2
  clear hz hz2 hk h1 h2 hx1
  unfold nodeV at *
  go_enter Tryz.func27, Tryz.ntmps27
  go_wp2_with fail
  refine (HHD.out _ hx2).mono ?_
  rintro e w3 ⟨rfl, hx3⟩
  have hb3 := hb2.ext hx3 id
  have hn3 := NodeIn.ext hn2 hx3 id
  have HF3 := Lib.hid (Fst.ext hF2 hx3 id)
  have HX3 := Lib.hid (hx2.trans' hx3)
  have hs3 := hx3.size
  rw [HZ2.out] at hs3
  have l0 : w.heap.size < w3.heap.size := by omega
  have l1 : w.heap.size + 1 < w3.heap.size := by omega
  have c0 := hb3.cell 0
  have c1 := hb3.cell 1
  have c2 := hb3.cell 2
  have c3 := hb3.cell 3
  have c4 := hb3.cell 4
  have f0 := hb3.frozen 0
  have f1 := hb3.frozen 1
  have f2 := hb3.frozen 2
  have f3 := hb3.frozen 3
  have f4 := hb3.frozen 4
  simp only [List.getElem?_toArray, List.getElem?_cons_zero, List.getElem?_cons_succ] at c0 c1 c2 c3 c4
  obtain ⟨n0, n1, n2, n3', n4⟩ := hn3.cells
  clear hx2 hb2 hn2 hF2 hx3
  go_wp2_with fail
  refine (HK1.out _ HX3.out).mono ?_
  rintro e w4 ⟨kv1, rfl, hx4, hs4, hsz4⟩
  have HX4 := Lib.hid (HX3.out.trans' hx4)
  have HF4 := Lib.hid (Fst.ext HF3.out hx4 id)
  have hb4 := hb3.ext hx4 id
  have hn4 := NodeIn.ext hn3 hx4 id
  have hz4 := hx4.size
  clear c0 c1 c2 c3 c4 f0 f1 f2 f3 f4 n0 n1 n2 n3' n4 hx4 hb3 hn3
  go_wp2_with fail
  have hnm := nodeName_any wd1 kv1 r1 p1 fb k1 w4 HF4.out hs4 hsz4
  unfold nodeV at hnm
  refine hnm.mono ?_
  rintro e w5 ⟨hx5, xs, rfl, ⟨s0, rfl⟩, hr5⟩
  simp only [mkOne]
  have HX5 := Lib.hid ((HX4.out.mono (M' := (· = fb)) (fun _ _ h => h.elim)).trans' hx5)
  have hb5 := hb4.ext hx5 (by omega)
  have hn5 := NodeIn.ext hn4 hx5 (by omega)
  have hz5 := hx5.size
  have l2 : w.heap.size < w5.heap.size := by omega
  have l3 : w.heap.size + 1 < w5.heap.size := by omega
  have c0 := hb5.cell 0
  have c1 := hb5.cell 1
  have c2 := hb5.cell 2
  have c3 := hb5.cell 3
  have c4 := hb5.cell 4
  have f0 := hb5.frozen 0
  have f1 := hb5.frozen 1
  have f2 := hb5.frozen 2
  have f3 := hb5.frozen 3
  have f4 := hb5.frozen 4
  simp only [List.getElem?_toArray, List.getElem?_cons_zero, List.getElem?_cons_succ] at c0 c1 c2 c3 c4
  obtain ⟨n0, n1, n2, n3', n4⟩ := hn5.cells
  have hX6 := (HX5.out.setCell (p := ⟨w.heap.size + 1, 0, none⟩) (fun h => by have h : w.heap.size + 1 < w.heap.size := h; omega) (.int .u8 14)).setCell (p := ⟨w.heap.size + 1, 1, none⟩) (fun h => by have h : w.heap.size + 1 < w.heap.size := h; omega) (.string s0)
  have hb6 := (hb5.set 0 (.int .u8 14)).set 1 (.string s0)
  have hn6 : NodeIn ((w5.setCell ⟨w.heap.size + 1, 0, none⟩ (.int .u8 14)).setCell ⟨w.heap.size + 1, 1, none⟩ (.string s0)) w.heap.size wd (.slice a k.len cap) true p fb := Blk.setOther (Blk.setOther hn5 ⟨w.heap.size + 1, 0, none⟩ (by simp) _) ⟨w.heap.size + 1, 1, none⟩ (by simp) _
  have hz6 : ((w5.setCell ⟨w.heap.size + 1, 0, none⟩ (.int .u8 14)).setCell ⟨w.heap.size + 1, 1, none⟩ (.string s0)).heap.size = w5.heap.size := by simp [World.setCell]
  simp only [List.setIfInBounds_toArray, List.set_cons_succ, List.set_cons_zero] at hb6
  have HX6 := Lib.hid hX6
  have HB6 := Lib.hid hb6
  have HN6 := Lib.hid hn6
  have HZ6 := Lib.hid hz6
  have HR5 := Lib.hid hr5
  have HF1 := Lib.hid hF
  clear hX6 hb6 hn6 hz6 hr5 hb4 hn4 hb5 hn5 hx5 hnm hF
  have HNB : w.heap.size + 1 ≠ fb ∧ w.heap.size ≠ fb := by omega
  have HR6 : Hid (match nameS wd1 r1 p1 with
    | .ok n0 => Fst ((w5.setCell ⟨w.heap.size + 1, 0, none⟩ (.int .u8 14)).setCell ⟨w.heap.size + 1, 1, none⟩ (.string s0)) fb false 0 ∧ s0 = n0 ∧ s0.size ≤ maxLen
    | .error q => Fst ((w5.setCell ⟨w.heap.size + 1, 0, none⟩ (.int .u8 14)).setCell ⟨w.heap.size + 1, 1, none⟩ (.string s0)) fb true q) := by
    have h := HR5.out
    refine Lib.hid ?_
    cases hd : nameS wd1 r1 p1 with
    | ok n0 =>
      rw [hd] at h
      obtain ⟨hf, xs', he, hm, _⟩ := h
      obtain ⟨rfl, _⟩ : s0 = n0 ∧ [] = xs' := by simpa using he
      exact ⟨Fst.setOther (Fst.setOther hf ⟨w.heap.size + 1, 0, none⟩ HNB.1 _) ⟨w.heap.size + 1, 1, none⟩ HNB.1 _, rfl, hm⟩
    | error q =>
      rw [hd] at h
      exact Fst.setOther (Fst.setOther h ⟨w.heap.size + 1, 0, none⟩ HNB.1 _) ⟨w.heap.size + 1, 1, none⟩ HNB.1 _
  go_wp2_with fail
  clear c0 c1 c2 c3 c4 f0 f1 f2 f3 f4 n0 n1 n2 n3' n4
  generalize (w5.setCell ⟨w.heap.size + 1, 0, none⟩ (.int .u8 14)).setCell ⟨w.heap.size + 1, 1, none⟩ (.string s0) = w6 at *
  obtain ⟨nm, hnm⟩ : ∃ nm, nm = nameS wd1 r1 p1 := ⟨_, rfl⟩
  have hr6 := HR6.out
  rw [← hnm] at hr6
  have HNM := Lib.hid hnm
  clear hnm
  cases nm with
  | ok nn =>
    obtain ⟨hf6, rfl, hm⟩ := hr6
    refine (HRS.out _ HX6.out hf6).mono ?_
    rintro e w7 ⟨hx7, xs, rfl, ⟨a9, n9, cap9, rfl⟩, hres⟩
    simp only [mkOne]
    have hb7 := HB6.out.ext hx7 HNB.1
    have HX7 := Lib.hid (HX6.out.trans' hx7)
    have HR7 := Lib.hid hres
    have HSS := Lib.hid hm
    have hz7 := hx7.size
    have hz8 : w.heap.size + 2 ≤ w6.heap.size := by rw [HZ6.out]; omega
    have l4 : w.heap.size + 1 < w7.heap.size := by omega
    have HZ8 := Lib.hid hz8
    clear hres hx7 hf6 hm hz7 hz8
    have c0 := hb7.cell 0
    have c1 := hb7.cell 1
    have c2 := hb7.cell 2
    have c3 := hb7.cell 3
    have c4 := hb7.cell 4
    have f0 := hb7.frozen 0
    have f1 := hb7.frozen 1
    have f2 := hb7.frozen 2
    have f3 := hb7.frozen 3
    have f4 := hb7.frozen 4
    simp only [List.getElem?_toArray, List.getElem?_cons_zero, List.getElem?_cons_succ] at c0 c1 c2 c3 c4
    clear hb7
    go_wp2_with fail
    refine bodyPost_ret (v := .agg #[.int .u8 14, .string s0, .bool false, .slice none 0 0, .slice a9 n9 cap9]) (by simp [results, Tryz.results27, go_sem, *]) rfl ⟨?_, [.int .u8 14, .string s0, .bool false, .slice none 0 0, .slice a9 n9 cap9], rfl, ⟨rfl, by simp [Value.oneCell']⟩, ?_⟩
    · exact (sets_ext (b := w.heap.size + 1) (fun h => by have : w.heap.size + 1 < w.heap.size := h; omega) [.int .u8 14, .string s0, .bool false, .slice none 0 0, .slice a9 n9 cap9] 0 _ (HX7.out.setCell (p := ⟨w.heap.size + 1, 4, none⟩) (fun h => by have h : w.heap.size + 1 < w.heap.size := h; omega) _))
    · rw [HRES.out, ← HNM.out]
      have h := HR7.out
      unfold kapR
      cases hd : eachS (fun wd r p k => termS k wd r p) (k.dropN 2) with
      | ok l =>
        rw [hd] at h
        exact ⟨sets_blk (b := w.heap.size + 1) HNB.1 [.int .u8 14, .string s0, .bool false, .slice none 0 0, .slice a9 n9 cap9] 0 _ (Fst.setOther h.1 ⟨w.heap.size + 1, 4, none⟩ HNB.1 _), (sets_rep (b := w.heap.size + 1) (D := fun b => w.heap.size + 2 ≤ b) (by omega) [.int .u8 14, .string s0, .bool false, .slice none 0 0, .slice a9 n9 cap9] 0 _ (Rep.setOther (show Rep (fun b => w.heap.size + 2 ≤ b) w7 (encTm (.mk 14 s0 .zero l)) [.int .u8 14, .string s0, .bool false, .slice none 0 0, .slice a9 n9 cap9] from ⟨_, rfl, _, rfl, HSS.out, zero_cells (u := .sl l.length (tmsU l) .nil) (h.2.mono (D' := fun b => w.heap.size + 2 ≤ b) (fun b hb _ => by have hb : w6.heap.size ≤ b := hb; have := HZ8.out; omega))⟩) ⟨w.heap.size + 1, 4, none⟩ (by simp) _)).mono (fun b hb _ => by have : w.heap.size + 2 ≤ b := hb; omega)⟩
      | error q =>
        rw [hd] at h
        exact sets_blk (b := w.heap.size + 1) HNB.1 [.int .u8 14, .string s0, .bool false, .slice none 0 0, .slice a9 n9 cap9] 0 _ (Fst.setOther h ⟨w.heap.size + 1, 4, none⟩ HNB.1 _)
  | error q =>
    refine (HRB.out _ q HX6.out hr6).mono ?_
    rintro e w7 ⟨rfl, hx7⟩
    have hb7 := HB6.out.ext hx7 id
    have HX7 := Lib.hid (HX6.out.trans' (hx7.mono (M' := (· = fb)) (fun _ _ h => h.elim)))
    have HF7 := Lib.hid (Fst.ext hr6 hx7 id)
    have hz7 := hx7.size
    have l4 : w.heap.size + 1 < w7.heap.size := by have := HZ6.out; omega
    clear hx7 hr6 hz7
    have c0 := hb7.cell 0
    have c1 := hb7.cell 1
    have c2 := hb7.cell 2
    have c3 := hb7.cell 3
    have c4 := hb7.cell 4
    have f0 := hb7.frozen 0
    have f1 := hb7.frozen 1
    have f2 := hb7.frozen 2
    have f3 := hb7.frozen 3
    have f4 := hb7.frozen 4
    simp only [List.getElem?_toArray, List.getElem?_cons_zero, List.getElem?_cons_succ] at c0 c1 c2 c3 c4
    clear hb7
    go_wp2_with fail
    refine bodyPost_ret (v := .agg #[.int .u8 14, .string s0, .bool false, .slice none 0 0, .slice none 0 0]) (by simp [results, Tryz.results27, go_sem, *]) rfl ⟨?_, [.int .u8 14, .string s0, .bool false, .slice none 0 0, .slice none 0 0], rfl, ⟨rfl, by simp [Value.oneCell']⟩, ?_⟩
    · exact (sets_ext (b := w.heap.size + 1) (fun h => by have : w.heap.size + 1 < w.heap.size := h; omega) [.int .u8 14, .string s0, .bool false, .slice none 0 0, .slice none 0 0] 0 _ (HX7.out.setCell (p := ⟨w.heap.size + 1, 4, none⟩) (fun h => by have h : w.heap.size + 1 < w.heap.size := h; omega) _))
    · rw [HRES.out, ← HNM.out]
      exact sets_blk (b := w.heap.size + 1) HNB.1 [.int .u8 14, .string s0, .bool false, .slice none 0 0, .slice none 0 0] 0 _ (Fst.setOther HF7.out ⟨w.heap.size + 1, 4, none⟩ HNB.1 _)

end Go.Proofs.YtmcinpeplkkpfaaGreatDoor

namespace Go.Proofs.YtmcinpeplkkpfaaGreatDoor
open Go.RowKit
set_option linter.unusedVariables false
set_option linter.unusedSimpArgs false
structure Slot where
  fn : Nat
  caps : Array Value
  tb : Nat
  off : Nat
  shp : List Value → Prop
  rd : ByteArray → Bool → Int → F → RR U

def slotsR : List Slot → F → RR (List U)
  | s :: ss, .cons wd r p k rest => match s.rd wd r p k with
    | .error e => .error e
    | .ok u => match slotsR ss rest with
      | .error e => .error e
      | .ok l => .ok (u :: l)
  | _, _ => .ok []

theorem slotsR_ok {s : Slot} {wd : ByteArray} {r : Bool} {p : Int} {k1 : F} {u : U} : ∀ (ss : List Slot) (k : F) (us : List U), slotsR ss k = .ok us → k.get ss.length = some (wd, r, p, k1) → s.rd wd r p k1 = .ok u → slotsR (ss ++ [s]) k = .ok (us ++ [u])
  | [], .nil, _, _, hg, _ => by simp [F.get] at hg
  | [], .cons wd0 r0 p0 k0 rest, us, h, hg, hu => by
    simp only [List.length_nil, F.get, Option.some.injEq, Prod.mk.injEq] at hg
    obtain ⟨rfl, rfl, rfl, rfl⟩ := hg
    have e : us = [] := by unfold slotsR at h; cases h; rfl
    subst e
    show slotsR (s :: []) _ = _
    unfold slotsR
    rw [hu]
    cases rest <;> rfl
  | a :: ss, .nil, _, _, hg, _ => by simp [F.get] at hg
  | a :: ss, .cons wd0 r0 p0 k0 rest, us, h, hg, hu => by
    show slotsR (a :: (ss ++ [s])) _ = _
    unfold slotsR at h ⊢
    cases ha : a.rd wd0 r0 p0 k0 with
    | error e => rw [ha] at h; cases h
    | ok u0 =>
      rw [ha] at h
      cases hr : slotsR ss rest with
      | error e => rw [hr] at h; cases h
      | ok l =>
        rw [hr] at h
        cases h
        rw [slotsR_ok ss rest l hr (by simpa [F.get] using hg) hu]
        rfl

theorem slotsR_err {s : Slot} {more : List Slot} {wd : ByteArray} {r : Bool} {p : Int} {k1 : F} {q : Int} : ∀ (ss : List Slot) (k : F) (us : List U), slotsR ss k = .ok us → k.get ss.length = some (wd, r, p, k1) → s.rd wd r p k1 = .error q → slotsR (ss ++ s :: more) k = .error q
  | [], .nil, _, _, hg, _ => by simp [F.get] at hg
  | [], .cons wd0 r0 p0 k0 rest, us, h, hg, hu => by
    simp only [List.length_nil, F.get, Option.some.injEq, Prod.mk.injEq] at hg
    obtain ⟨rfl, rfl, rfl, rfl⟩ := hg
    show slotsR (s :: more) _ = _
    unfold slotsR
    rw [hu]
  | a :: ss, .nil, _, _, hg, _ => by simp [F.get] at hg
  | a :: ss, .cons wd0 r0 p0 k0 rest, us, h, hg, hu => by
    show slotsR (a :: (ss ++ s :: more)) _ = _
    unfold slotsR at h ⊢
    cases ha : a.rd wd0 r0 p0 k0 with
    | error e => rw [ha] at h; cases h
    | ok u0 =>
      rw [ha] at h
      cases hr : slotsR ss rest with
      | error e => rw [hr] at h; cases h
      | ok l => rw [slotsR_err ss rest l hr (by simpa [F.get] using hg) hu]

def put (S : Nat → Array Value) (s : Slot) (xs : List Value) : Nat → Array Value := fun b => if b = s.tb then putL (S b) s.off xs else S b

def puts : (Nat → Array Value) → List Slot → List (List Value) → Nat → Array Value
  | S, s :: ss, xs :: xss => puts (put S s xs) ss xss
  | S, _, _ => S

theorem puts_snoc {s : Slot} {xs : List Value} : ∀ (ss : List Slot) (xss : List (List Value)) (S : Nat → Array Value), ss.length = xss.length → puts S (ss ++ [s]) (xss ++ [xs]) = put (puts S ss xss) s xs
  | [], [], S, _ => rfl
  | a :: ss, x :: xss, S, h => puts_snoc ss xss (put S a x) (by simpa using h)
  | [], _ :: _, _, h => by simp at h
  | _ :: _, [], _, h => by simp at h

def SRep (D : Nat → Prop) (w : World) : List Slot → List U → List (List Value) → Prop
  | s :: ss, u :: us, xs :: xss => s.shp xs ∧ Rep D w u xs ∧ SRep D w ss us xss
  | [], [], [] => True
  | _, _, _ => False

theorem SRep.length {D : Nat → Prop} {w : World} : ∀ {ss : List Slot} {us : List U} {xss : List (List Value)}, SRep D w ss us xss → ss.length = xss.length
  | _ :: _, _ :: _, _ :: _, h => by simp [SRep.length h.2.2]
  | [], [], [], _ => rfl
  | [], _ :: _, _, h => h.elim
  | [], [], _ :: _, h => h.elim
  | _ :: _, [], _, h => h.elim
  | _ :: _, _ :: _, [], h => h.elim

theorem SRep.snoc {D : Nat → Prop} {w : World} {s : Slot} {u : U} {xs : List Value} (h1 : s.shp xs) (h2 : Rep D w u xs) : ∀ {ss : List Slot} {us : List U} {xss : List (List Value)}, SRep D w ss us xss → SRep D w (ss ++ [s]) (us ++ [u]) (xss ++ [xs])
  | _ :: _, _ :: _, _ :: _, h => ⟨h.1, h.2.1, SRep.snoc h1 h2 h.2.2⟩
  | [], [], [], _ => ⟨h1, h2, trivial⟩
  | [], _ :: _, _, h => h.elim
  | [], [], _ :: _, h => h.elim
  | _ :: _, [], _, h => h.elim
  | _ :: _, _ :: _, [], h => h.elim

theorem SRep.ext {D M : Nat → Prop} {w w' : World} (he : Ext M w w') (hm : ∀ b, D b → ¬ M b) : ∀ {ss : List Slot} {us : List U} {xss : List (List Value)}, SRep D w ss us xss → SRep D w' ss us xss
  | _ :: _, _ :: _, _ :: _, h => ⟨h.1, h.2.1.ext he hm, SRep.ext he hm h.2.2⟩
  | [], [], [], _ => trivial
  | [], _ :: _, _, h => h.elim
  | [], [], _ :: _, h => h.elim
  | _ :: _, [], _, h => h.elim
  | _ :: _, _ :: _, [], h => h.elim

theorem putL_size : ∀ (xs : List Value) (cs : Array Value) (i : Nat), (putL cs i xs).size = cs.size
  | [], _, _ => rfl
  | x :: xs, cs, i => by unfold putL; rw [putL_size xs]; simp

theorem putL_one : ∀ (xs : List Value) (cs : Array Value) (i : Nat), (∀ x ∈ cs, x.oneCell' = true) → (∀ x ∈ xs, x.oneCell' = true) → ∀ x ∈ putL cs i xs, x.oneCell' = true
  | [], _, _, h, _ => h
  | y :: xs, cs, i, h, hx => by
    unfold putL
    refine putL_one xs _ _ ?_ (fun x hm => hx x (List.mem_cons_of_mem _ hm))
    intro x hm
    rcases Array.mem_or_eq_of_mem_setIfInBounds hm with h1 | h1
    · exact h x h1
    · exact h1 ▸ hx y (List.mem_cons_self ..)

def Tgt (ts : List Nat) (tt : Nat → TypeId) (S S' : Nat → Array Value) (w : World) : Prop := ∀ b ∈ ts, Blk w b (S' b) (tt b) ∧ (S' b).size = (S b).size ∧ ∀ x ∈ S' b, x.oneCell' = true

theorem Tgt.ext {M : Nat → Prop} {ts : List Nat} {tt : Nat → TypeId} {S S' : Nat → Array Value} {w w' : World} (h : Tgt ts tt S S' w) (he : Ext M w w') (hm : ∀ b ∈ ts, ¬ M b) : Tgt ts tt S S' w' := fun b hb => ⟨(h b hb).1.ext he (hm b hb), (h b hb).2⟩

def PartsPost (fb : Nat) (ts : List Nat) (tt : Nat → TypeId) (S : Nat → Array Value) (slots : List Slot) (k : F) (w : World) (e : Ending) (w' : World) : Prop :=
  e = .returned (.tuple #[]) ∧ Ext (fun b => b = fb ∨ b ∈ ts) w w' ∧ ∃ S', Tgt ts tt S S' w' ∧ match slotsR slots k with
    | .ok us => Fst w' fb false 0 ∧ ∃ xss, S' = puts S slots xss ∧ SRep (fun b => w.heap.size ≤ b) w' slots us xss
    | .error q => Fst w' fb true q

def SlotDoes (B fb : Nat) (ts : List Nat) (tt : Nat → TypeId) (S : Nat → Array Value) (w : World) (s : Slot) (wd1 : ByteArray) (r1 : Bool) (p1 : Int) (k1 : F) : Prop :=
  ∀ kv1 w1 cs, Ext (fun b => b = fb ∨ b ∈ ts) w w1 → Fst w1 fb false 0 → Sl (· < B) w1 kv1 k1 → wd1.size ≤ maxLen → Blk w1 s.tb cs (tt s.tb) → cs.size = (S s.tb).size →
    Calls Tryz.prog s.fn (#[nodeV wd1 kv1 r1 p1 fb] ++ s.caps) w1 (IntoPost fb s.tb (tt s.tb) cs s.off s.shp id (s.rd wd1 r1 p1 k1) w1)

theorem parts_slots {B : Nat} (ts : List Nat) (tt : Nat → TypeId) (S : Nat → Array Value) (slots : List Slot) (wd : ByteArray) (kv : Value) (p : Int) (fb : Nat) (k : F) (rb : Nat) (tr : TypeId) (w : World)
    (hk : Sl (· < B) w kv k) (hF : Fst w fb false 0) (hR : Blk w rb ((slots.map fun s => Value.func (.func s.fn) #[] s.caps).toArray) tr) (hlen : k.len = slots.length) (hn : (slots.length : Int) ≤ 100)
    (hfb : B ≤ fb) (hts : ∀ b ∈ ts, B ≤ b ∧ b < w.heap.size ∧ b ≠ rb ∧ b ≠ fb) (hrb : rb ≠ fb) (hT : Tgt ts tt S S w)
    (hin : ∀ s ∈ slots, s.tb ∈ ts) (hshp : ∀ s ∈ slots, ∀ xs, s.shp xs → ∀ x ∈ xs, x.oneCell' = true)
    (hent : ∀ s ∈ slots, ∀ args w, (callFunc s.fn args).run Tryz.prog w = .ok (.enter s.fn args) w)
    (step : ∀ i (h : i < slots.length) wd1 r1 p1 k1, k.get i = some (wd1, r1, p1, k1) → SlotDoes B fb ts tt S w slots[i] wd1 r1 p1 k1) :
    Calls Tryz.prog 42 #[nodeV wd kv true p fb, .slice (some ⟨rb, 0, none⟩) slots.length slots.length] w (PartsPost fb ts tt S slots k w) := by
  have hfl := Blk.lt hF
  have h := parts_ok (B := B) (fun b => b = fb ∨ b ∈ ts)
    (fun i w' => Fst w' fb false 0 ∧ ∃ us xss, slotsR (slots.take i) k = .ok us ∧ SRep (fun b => w.heap.size ≤ b) w' (slots.take i) us xss ∧ Tgt ts tt S (puts S (slots.take i) xss) w')
    (fun w' => ∃ q, Fst w' fb true q ∧ slotsR slots k = .error q ∧ ∃ S', Tgt ts tt S S' w')
    (slots.map fun s => (s.fn, s.caps)) wd kv p fb k rb tr w hk (by simpa [Function.comp_def] using hR) (by simpa using hlen) (by simpa using hn)
    (fun b hb => hb.elim (fun h => h ▸ hfb) (fun h => (hts b h).1)) (fun hb => hb.elim (fun h => hrb h) (fun h => (hts _ h).2.2.1 rfl)) (fun b hb => hb.elim (fun h => h ▸ hfl) (fun h => (hts b h).2.1))
    (fun i w h => h.1) (fun w ⟨q, h, _⟩ => ⟨q, h⟩)
    (fun i w1 w2 ⟨h1, us, xss, h2, h3, h4⟩ hx => ⟨Fst.ext h1 hx id, us, xss, h2, h3.ext hx (fun _ _ h => h), h4.ext hx (fun _ _ h => h)⟩)
    (fun w1 w2 ⟨q, h1, h2, S', h3⟩ hx => ⟨q, Fst.ext h1 hx id, h2, S', h3.ext hx (fun _ _ h => h)⟩)
    ⟨hF, [], [], by simp [slotsR], trivial, hT⟩
    (fun i h => by
      have hi : i < slots.length := by simpa using h
      simp only [List.getElem_map]
      exact hent _ (List.getElem_mem hi))
    (fun i h wd1 r1 p1 k1 kv1 w1 hg hx hinv hsl hwd => by
      have hi : i < slots.length := by simpa using h
      simp only [List.getElem_map]
      obtain ⟨h1, us, xss, h2, h3, h4⟩ := hinv
      have hm := List.getElem_mem hi
      have ht := hin _ hm
      obtain ⟨hb, hsz, hone⟩ := h4 _ ht
      refine (step i hi wd1 r1 p1 k1 hg kv1 w1 _ hx h1 hsl hwd hb hsz).mono ?_
      rintro e w2 ⟨rfl, hx2, xs, hsh, hb2, hres⟩
      have htk : slots.take (i + 1) = slots.take i ++ [slots[i]] := by rw [List.take_succ_eq_append_getElem hi]
      have hlt : (slots.take i).length = i := by simp; omega
      have hx2' : Ext (fun b => b = fb ∨ b ∈ ts) w1 w2 := hx2.mono (fun b _ hM => hM.elim .inl (fun h => .inr (h ▸ ht)))
      have hT2 : Tgt ts tt S (put (puts S (slots.take i) xss) slots[i] xs) w2 := by
        intro b hbm
        unfold put
        by_cases e : b = slots[i].tb
        · subst e
          rw [if_pos rfl]
          exact ⟨hb2, by rw [putL_size]; exact hsz, putL_one _ _ _ hone (hshp _ hm xs hsh)⟩
        · rw [if_neg e]
          obtain ⟨g1, g2⟩ := h4 b hbm
          exact ⟨g1.ext hx2 (fun hM => hM.elim (fun h => (hts b hbm).2.2.2 h) e), g2⟩
      refine ⟨rfl, hx2', ?_⟩
      cases hrd : slots[i].rd wd1 r1 p1 k1 with
      | ok u =>
        rw [hrd] at hres
        refine .inl ⟨hres.1, us ++ [u], xss ++ [xs], ?_, ?_, ?_⟩
        · rw [htk]; exact slotsR_ok _ _ _ h2 (by rw [hlt]; exact hg) hrd
        · rw [htk]
          have hw : w.heap.size ≤ w1.heap.size := hx.size
          refine (h3.ext hx2 (fun b hb hM => ?_)).snoc hsh (hres.2.mono (fun b hb _ => Nat.le_trans hw hb))
          have hb : w.heap.size ≤ b := hb
          rcases hM with h | h
          · omega
          · have := (hts _ ht).2.1; omega
        · rw [htk, puts_snoc _ _ _ h3.length]; exact hT2
      | error q =>
        rw [hrd] at hres
        refine .inr ⟨q, hres, ?_, _, hT2⟩
        have hd : slots = slots.take i ++ slots[i] :: slots.drop (i + 1) := by rw [← List.drop_eq_getElem_cons hi, List.take_append_drop]
        rw [hd]
        exact slotsR_err _ _ _ h2 (by rw [hlt]; exact hg) hrd)
  rw [List.length_map] at h
  refine h.mono ?_
  rintro e w' ⟨rfl, hx, hor⟩
  refine ⟨rfl, hx, ?_⟩
  rcases hor with ⟨h1, us, xss, h2, h3, h4⟩ | ⟨q, h1, h2, S', h3⟩
  · rw [List.take_length] at h2 h3 h4
    exact ⟨_, h4, by rw [h2]; exact ⟨h1, xss, rfl, h3⟩⟩
  · exact ⟨S', h3, by rw [h2]; exact h1⟩

end Go.Proofs.YtmcinpeplkkpfaaGreatDoor

namespace Go.Proofs.YtmcinpeplkkpfaaGreatDoor
open Go.RowKit
set_option linter.unusedVariables false
def mapU {α : Type} (enc : α → U) : RR α → RR U | .ok a => .ok (enc a) | .error e => .error e

theorem IntoPost.mapU {fb tb : Nat} {tt : TypeId} {cs : Array Value} {off : Nat} {shp : List Value → Prop} {α : Type} {enc : α → U} {res : RR α} {w : World} {e : Ending} {w' : World} (h : IntoPost fb tb tt cs off shp enc res w e w') : IntoPost fb tb tt cs off shp id (mapU enc res) w e w' := by
  obtain ⟨h1, h2, xs, h3, h4, h5⟩ := h
  refine ⟨h1, h2, xs, h3, h4, ?_⟩
  cases res with
  | ok a => exact h5
  | error q => exact h5

def Reads1 (B fb g : Nat) (shp : List Value → Prop) (mk : List Value → Value) {α : Type} (enc : α → U) (f : ByteArray → Bool → Int → F → RR α) (wd1 : ByteArray) (r1 : Bool) (p1 : Int) (k1 : F) : Prop :=
  ∀ kv1 w1, B ≤ w1.heap.size → Fst w1 fb false 0 → Sl (· < B) w1 kv1 k1 → wd1.size ≤ maxLen → Calls Tryz.prog g #[nodeV wd1 kv1 r1 p1 fb] w1 (RdPost fb shp mk enc (f wd1 r1 p1 k1) w1)

theorem shpN_one {n : Nat} {xs : List Value} (h : shpN n xs) : ∀ x ∈ xs, x.oneCell' = true := h.2

theorem shpStr_one {xs : List Value} (h : shpStr xs) : ∀ x ∈ xs, x.oneCell' = true := by obtain ⟨s, rfl⟩ := h; simp [Value.oneCell']

theorem shpSl_one {xs : List Value} (h : shpSl xs) : ∀ x ∈ xs, x.oneCell' = true := by obtain ⟨a, n, c, rfl⟩ := h; simp [Value.oneCell']

def slotSkip (tb : Nat) : Slot := ⟨43, #[], tb, 0, (· = []), fun _ _ _ _ => .ok .nil⟩

theorem does_skip {B fb : Nat} {ts : List Nat} {tt : Nat → TypeId} {S : Nat → Array Value} {w : World} (tb : Nat) (wd1 : ByteArray) (r1 : Bool) (p1 : Int) (k1 : F) : SlotDoes B fb ts tt S w (slotSkip tb) wd1 r1 p1 k1 := by
  intro kv1 w1 cs hx hF hsl hwd hb hsz
  obtain ⟨a, cap, rfl, h1, h2⟩ := hsl.shape
  show Calls Tryz.prog 43 #[nodeV wd1 (.slice a k1.len cap) r1 p1 fb] w1 (IntoPost fb tb (tt tb) cs 0 (· = []) id (.ok U.nil) w1)
  obtain ⟨res, hres0⟩ : ∃ res : RR U, res = .ok U.nil := ⟨_, rfl⟩
  rw [← hres0]
  have HRES := Lib.hid hres0
  clear hres0
  have HF := Lib.hid hF
  have HB := Lib.hid hb
  clear hx hF hb hsl h1 h2 hsz
  unfold nodeV
  go_enter Tryz.func43, Tryz.ntmps43
  go_wp2_with fail
  go_end0
  refine ⟨rfl, (Ext.refl _ _).alloc _, [], rfl, Blk.alloc HB.out _, ?_⟩
  rw [HRES.out]
  exact ⟨Blk.alloc HF.out _, rfl⟩

theorem skip_enters : ∀ args w, (callFunc 43 args).run Tryz.prog w = .ok (.enter 43 args) w := enters_of Tryz.func43 (by kernel_rfl) rfl

theorem not_or {P Q : Prop} (h1 : ¬ P) (h2 : ¬ Q) : ¬ (P ∨ Q) := fun h => h.elim h1 h2

def slotStr {α : Type} (br bt tb off : Nat) (enc : α → U) (f : ByteArray → Bool → Int → F → RR α) : Slot := ⟨92, #[.pointer (some ⟨br, 0, none⟩), .pointer (some ⟨bt, 0, none⟩)], tb, off, shpStr, fun wd r p k => mapU enc (f wd r p k)⟩

theorem intoStr_enters : ∀ args w, (callFunc 92 args).run Tryz.prog w = .ok (.enter 92 args) w := enters_of Tryz.func92 (by kernel_rfl) rfl

theorem doesStr {B fb : Nat} {ts : List Nat} {tt : Nat → TypeId} {S : Nat → Array Value} {w : World} {g : Nat} {α : Type} (br bt tb off : Nat) (enc : α → U) (f : ByteArray → Bool → Int → F → RR α) {tr t2 : TypeId} (wd1 : ByteArray) (r1 : Bool) (p1 : Int) (k1 : F)
    (hR : Blk w br #[.func (.func g) #[] #[]] tr) (hB : Blk w bt #[.pointer (some ⟨tb, off, none⟩)] t2) (hbr : br ≠ fb ∧ br ∉ ts) (hbt : bt ≠ fb ∧ bt ∉ ts) (hoff : off + 1 ≤ (S tb).size) (htb : tb ≠ fb) (hfl : fb < w.heap.size) (hBw : B ≤ w.heap.size)
    (hent : ∀ args w, (callFunc g args).run Tryz.prog w = .ok (.enter g args) w) (hread : Reads1 B fb g shpStr mkOne enc f wd1 r1 p1 k1) : SlotDoes B fb ts tt S w (slotStr br bt tb off enc f) wd1 r1 p1 k1 := by
  intro kv1 w1 cs hx hF hsl hwd hb hsz
  have hone : kv1.oneCell' = true := by obtain ⟨a, cap, rfl, _⟩ := hsl.shape; rfl
  have hz := hx.size
  exact (intoStr_run g enc (f wd1 r1 p1 k1) wd1 kv1 r1 p1 fb br bt tb off (tt tb) tr t2 cs w1 (hR.ext hx (not_or hbr.1 hbr.2)) (hB.ext hx (not_or hbt.1 hbt.2)) hb (by rw [hsz]; exact hoff) hbr.1 hbt.1 htb (Nat.lt_of_lt_of_le hfl hz) hone hent
    (fun w2 hx2 => hread kv1 w2 (by have := hx2.size; omega) (Fst.ext hF hx2 id) (hsl.ext hx2 (fun _ _ h => h)) hwd)).mono (fun e w' h => h.mapU)

def slotTm {α : Type} (br bt tb off : Nat) (enc : α → U) (f : ByteArray → Bool → Int → F → RR α) : Slot := ⟨96, #[.pointer (some ⟨br, 0, none⟩), .pointer (some ⟨bt, 0, none⟩)], tb, off, (shpN 5), fun wd r p k => mapU enc (f wd r p k)⟩

theorem intoTm_enters : ∀ args w, (callFunc 96 args).run Tryz.prog w = .ok (.enter 96 args) w := enters_of Tryz.func96 (by kernel_rfl) rfl

theorem doesTm {B fb : Nat} {ts : List Nat} {tt : Nat → TypeId} {S : Nat → Array Value} {w : World} {g : Nat} {α : Type} (br bt tb off : Nat) (enc : α → U) (f : ByteArray → Bool → Int → F → RR α) {tr t2 : TypeId} (wd1 : ByteArray) (r1 : Bool) (p1 : Int) (k1 : F)
    (hR : Blk w br #[.func (.func g) #[] #[]] tr) (hB : Blk w bt #[.pointer (some ⟨tb, off, none⟩)] t2) (hbr : br ≠ fb ∧ br ∉ ts) (hbt : bt ≠ fb ∧ bt ∉ ts) (hoff : off + 5 ≤ (S tb).size) (htb : tb ≠ fb) (hfl : fb < w.heap.size) (hBw : B ≤ w.heap.size)
    (hent : ∀ args w, (callFunc g args).run Tryz.prog w = .ok (.enter g args) w) (hread : Reads1 B fb g (shpN 5) mkAgg enc f wd1 r1 p1 k1) : SlotDoes B fb ts tt S w (slotTm br bt tb off enc f) wd1 r1 p1 k1 := by
  intro kv1 w1 cs hx hF hsl hwd hb hsz
  have hone : kv1.oneCell' = true := by obtain ⟨a, cap, rfl, _⟩ := hsl.shape; rfl
  have hz := hx.size
  exact (intoTm_run g enc (f wd1 r1 p1 k1) wd1 kv1 r1 p1 fb br bt tb off (tt tb) tr t2 cs w1 (hR.ext hx (not_or hbr.1 hbr.2)) (hB.ext hx (not_or hbt.1 hbt.2)) hb (by rw [hsz]; exact hoff) hbr.1 hbt.1 htb (Nat.lt_of_lt_of_le hfl hz) hone hent
    (fun w2 hx2 => hread kv1 w2 (by have := hx2.size; omega) (Fst.ext hF hx2 id) (hsl.ext hx2 (fun _ _ h => h)) hwd)).mono (fun e w' h => h.mapU)

def slotPms {α : Type} (br bt tb off : Nat) (enc : α → U) (f : ByteArray → Bool → Int → F → RR α) : Slot := ⟨97, #[.pointer (some ⟨br, 0, none⟩), .pointer (some ⟨bt, 0, none⟩)], tb, off, shpSl, fun wd r p k => mapU enc (f wd r p k)⟩

theorem intoPms_enters : ∀ args w, (callFunc 97 args).run Tryz.prog w = .ok (.enter 97 args) w := enters_of Tryz.func97 (by kernel_rfl) rfl

theorem doesPms {B fb : Nat} {ts : List Nat} {tt : Nat → TypeId} {S : Nat → Array Value} {w : World} {g : Nat} {α : Type} (br bt tb off : Nat) (enc : α → U) (f : ByteArray → Bool → Int → F → RR α) {tr t2 : TypeId} (wd1 : ByteArray) (r1 : Bool) (p1 : Int) (k1 : F)
    (hR : Blk w br #[.func (.func g) #[] #[]] tr) (hB : Blk w bt #[.pointer (some ⟨tb, off, none⟩)] t2) (hbr : br ≠ fb ∧ br ∉ ts) (hbt : bt ≠ fb ∧ bt ∉ ts) (hoff : off + 1 ≤ (S tb).size) (htb : tb ≠ fb) (hfl : fb < w.heap.size) (hBw : B ≤ w.heap.size)
    (hent : ∀ args w, (callFunc g args).run Tryz.prog w = .ok (.enter g args) w) (hread : Reads1 B fb g shpSl mkOne enc f wd1 r1 p1 k1) : SlotDoes B fb ts tt S w (slotPms br bt tb off enc f) wd1 r1 p1 k1 := by
  intro kv1 w1 cs hx hF hsl hwd hb hsz
  have hone : kv1.oneCell' = true := by obtain ⟨a, cap, rfl, _⟩ := hsl.shape; rfl
  have hz := hx.size
  exact (intoPms_run g enc (f wd1 r1 p1 k1) wd1 kv1 r1 p1 fb br bt tb off (tt tb) tr t2 cs w1 (hR.ext hx (not_or hbr.1 hbr.2)) (hB.ext hx (not_or hbt.1 hbt.2)) hb (by rw [hsz]; exact hoff) hbr.1 hbt.1 htb (Nat.lt_of_lt_of_le hfl hz) hone hent
    (fun w2 hx2 => hread kv1 w2 (by have := hx2.size; omega) (Fst.ext hF hx2 id) (hsl.ext hx2 (fun _ _ h => h)) hwd)).mono (fun e w' h => h.mapU)

def slotTy {α : Type} (br bt tb off : Nat) (enc : α → U) (f : ByteArray → Bool → Int → F → RR α) : Slot := ⟨100, #[.pointer (some ⟨br, 0, none⟩), .pointer (some ⟨bt, 0, none⟩)], tb, off, (shpN 9), fun wd r p k => mapU enc (f wd r p k)⟩

theorem intoTy_enters : ∀ args w, (callFunc 100 args).run Tryz.prog w = .ok (.enter 100 args) w := enters_of Tryz.func100 (by kernel_rfl) rfl

theorem doesTy {B fb : Nat} {ts : List Nat} {tt : Nat → TypeId} {S : Nat → Array Value} {w : World} {g : Nat} {α : Type} (br bt tb off : Nat) (enc : α → U) (f : ByteArray → Bool → Int → F → RR α) {tr t2 : TypeId} (wd1 : ByteArray) (r1 : Bool) (p1 : Int) (k1 : F)
    (hR : Blk w br #[.func (.func g) #[] #[]] tr) (hB : Blk w bt #[.pointer (some ⟨tb, off, none⟩)] t2) (hbr : br ≠ fb ∧ br ∉ ts) (hbt : bt ≠ fb ∧ bt ∉ ts) (hoff : off + 9 ≤ (S tb).size) (htb : tb ≠ fb) (hfl : fb < w.heap.size) (hBw : B ≤ w.heap.size)
    (hent : ∀ args w, (callFunc g args).run Tryz.prog w = .ok (.enter g args) w) (hread : Reads1 B fb g (shpN 9) mkAgg enc f wd1 r1 p1 k1) : SlotDoes B fb ts tt S w (slotTy br bt tb off enc f) wd1 r1 p1 k1 := by
  intro kv1 w1 cs hx hF hsl hwd hb hsz
  have hone : kv1.oneCell' = true := by obtain ⟨a, cap, rfl, _⟩ := hsl.shape; rfl
  have hz := hx.size
  exact (intoTy_run g enc (f wd1 r1 p1 k1) wd1 kv1 r1 p1 fb br bt tb off (tt tb) tr t2 cs w1 (hR.ext hx (not_or hbr.1 hbr.2)) (hB.ext hx (not_or hbt.1 hbt.2)) hb (by rw [hsz]; exact hoff) hbr.1 hbt.1 htb (Nat.lt_of_lt_of_le hfl hz) hone hent
    (fun w2 hx2 => hread kv1 w2 (by have := hx2.size; omega) (Fst.ext hF hx2 id) (hsl.ext hx2 (fun _ _ h => h)) hwd)).mono (fun e w' h => h.mapU)

def slotEx {α : Type} (br bt tb off : Nat) (enc : α → U) (f : ByteArray → Bool → Int → F → RR α) : Slot := ⟨101, #[.pointer (some ⟨br, 0, none⟩), .pointer (some ⟨bt, 0, none⟩)], tb, off, (shpN 11), fun wd r p k => mapU enc (f wd r p k)⟩

theorem intoEx_enters : ∀ args w, (callFunc 101 args).run Tryz.prog w = .ok (.enter 101 args) w := enters_of Tryz.func101 (by kernel_rfl) rfl

theorem doesEx {B fb : Nat} {ts : List Nat} {tt : Nat → TypeId} {S : Nat → Array Value} {w : World} {g : Nat} {α : Type} (br bt tb off : Nat) (enc : α → U) (f : ByteArray → Bool → Int → F → RR α) {tr t2 : TypeId} (wd1 : ByteArray) (r1 : Bool) (p1 : Int) (k1 : F)
    (hR : Blk w br #[.func (.func g) #[] #[]] tr) (hB : Blk w bt #[.pointer (some ⟨tb, off, none⟩)] t2) (hbr : br ≠ fb ∧ br ∉ ts) (hbt : bt ≠ fb ∧ bt ∉ ts) (hoff : off + 11 ≤ (S tb).size) (htb : tb ≠ fb) (hfl : fb < w.heap.size) (hBw : B ≤ w.heap.size)
    (hent : ∀ args w, (callFunc g args).run Tryz.prog w = .ok (.enter g args) w) (hread : Reads1 B fb g (shpN 11) mkAgg enc f wd1 r1 p1 k1) : SlotDoes B fb ts tt S w (slotEx br bt tb off enc f) wd1 r1 p1 k1 := by
  intro kv1 w1 cs hx hF hsl hwd hb hsz
  have hone : kv1.oneCell' = true := by obtain ⟨a, cap, rfl, _⟩ := hsl.shape; rfl
  have hz := hx.size
  exact (intoEx_run g enc (f wd1 r1 p1 k1) wd1 kv1 r1 p1 fb br bt tb off (tt tb) tr t2 cs w1 (hR.ext hx (not_or hbr.1 hbr.2)) (hB.ext hx (not_or hbt.1 hbt.2)) hb (by rw [hsz]; exact hoff) hbr.1 hbt.1 htb (Nat.lt_of_lt_of_le hfl hz) hone hent
    (fun w2 hx2 => hread kv1 w2 (by have := hx2.size; omega) (Fst.ext hF hx2 id) (hsl.ext hx2 (fun _ _ h => h)) hwd)).mono (fun e w' h => h.mapU)

def slotZi {α : Type} (br bt tb off : Nat) (enc : α → U) (f : ByteArray → Bool → Int → F → RR α) : Slot := ⟨122, #[.pointer (some ⟨br, 0, none⟩), .pointer (some ⟨bt, 0, none⟩)], tb, off, (shpN 2), fun wd r p k => mapU enc (f wd r p k)⟩

theorem intoZi_enters : ∀ args w, (callFunc 122 args).run Tryz.prog w = .ok (.enter 122 args) w := enters_of Tryz.func122 (by kernel_rfl) rfl

theorem doesZi {B fb : Nat} {ts : List Nat} {tt : Nat → TypeId} {S : Nat → Array Value} {w : World} {g : Nat} {α : Type} (br bt tb off : Nat) (enc : α → U) (f : ByteArray → Bool → Int → F → RR α) {tr t2 : TypeId} (wd1 : ByteArray) (r1 : Bool) (p1 : Int) (k1 : F)
    (hR : Blk w br #[.func (.func g) #[] #[]] tr) (hB : Blk w bt #[.pointer (some ⟨tb, off, none⟩)] t2) (hbr : br ≠ fb ∧ br ∉ ts) (hbt : bt ≠ fb ∧ bt ∉ ts) (hoff : off + 2 ≤ (S tb).size) (htb : tb ≠ fb) (hfl : fb < w.heap.size) (hBw : B ≤ w.heap.size)
    (hent : ∀ args w, (callFunc g args).run Tryz.prog w = .ok (.enter g args) w) (hread : Reads1 B fb g (shpN 2) mkAgg enc f wd1 r1 p1 k1) : SlotDoes B fb ts tt S w (slotZi br bt tb off enc f) wd1 r1 p1 k1 := by
  intro kv1 w1 cs hx hF hsl hwd hb hsz
  have hone : kv1.oneCell' = true := by obtain ⟨a, cap, rfl, _⟩ := hsl.shape; rfl
  have hz := hx.size
  exact (intoZi_run g enc (f wd1 r1 p1 k1) wd1 kv1 r1 p1 fb br bt tb off (tt tb) tr t2 cs w1 (hR.ext hx (not_or hbr.1 hbr.2)) (hB.ext hx (not_or hbt.1 hbt.2)) hb (by rw [hsz]; exact hoff) hbr.1 hbt.1 htb (Nat.lt_of_lt_of_le hfl hz) hone hent
    (fun w2 hx2 => hread kv1 w2 (by have := hx2.size; omega) (Fst.ext hF hx2 id) (hsl.ext hx2 (fun _ _ h => h)) hwd)).mono (fun e w' h => h.mapU)

end Go.Proofs.YtmcinpeplkkpfaaGreatDoor

namespace Go.Proofs.YtmcinpeplkkpfaaGreatDoor
open Go.RowKit
set_option linter.unusedVariables false
set_option linter.unusedSimpArgs false
def partsR (slots : List Slot) (r : Bool) (p : Int) (k : F) : RR (List U) := if r = true ∧ k.len = slots.length then slotsR slots k else .error p

def PartsRes (fb : Nat) (ts : List Nat) (tt : Nat → TypeId) (S : Nat → Array Value) (slots : List Slot) (res : RR (List U)) (w : World) (e : Ending) (w' : World) : Prop :=
  e = .returned (.tuple #[]) ∧ Ext (fun b => b = fb ∨ b ∈ ts) w w' ∧ ∃ S', Tgt ts tt S S' w' ∧ match res with
    | .ok us => Fst w' fb false 0 ∧ ∃ xss, S' = puts S slots xss ∧ SRep (fun b => w.heap.size ≤ b) w' slots us xss
    | .error q => Fst w' fb true q

theorem parts_any {B : Nat} (ts : List Nat) (tt : Nat → TypeId) (S : Nat → Array Value) (slots : List Slot) (wd : ByteArray) (kv : Value) (r : Bool) (p : Int) (fb : Nat) (k : F) (rb : Nat) (tr : TypeId) (w : World)
    (hk : Sl (· < B) w kv k) (hF : Fst w fb false 0) (hR : Blk w rb ((slots.map fun s => Value.func (.func s.fn) #[] s.caps).toArray) tr) (hn : (slots.length : Int) ≤ 100)
    (hfb : B ≤ fb) (hts : ∀ b ∈ ts, B ≤ b ∧ b < w.heap.size ∧ b ≠ rb ∧ b ≠ fb) (hrb : rb ≠ fb) (hT : Tgt ts tt S S w)
    (hin : ∀ s ∈ slots, s.tb ∈ ts) (hshp : ∀ s ∈ slots, ∀ xs, s.shp xs → ∀ x ∈ xs, x.oneCell' = true)
    (hent : ∀ s ∈ slots, ∀ args w, (callFunc s.fn args).run Tryz.prog w = .ok (.enter s.fn args) w)
    (step : ∀ i (h : i < slots.length) wd1 r1 p1 k1, k.get i = some (wd1, r1, p1, k1) → SlotDoes B fb ts tt S w slots[i] wd1 r1 p1 k1) :
    Calls Tryz.prog 42 #[nodeV wd kv r p fb, .slice (some ⟨rb, 0, none⟩) slots.length slots.length] w (PartsRes fb ts tt S slots (partsR slots r p k) w) := by
  by_cases hc : r = true ∧ k.len = slots.length
  · obtain ⟨rfl, hl⟩ := hc
    refine (parts_slots ts tt S slots wd kv p fb k rb tr w hk hF hR hl hn hfb hts hrb hT hin hshp hent step).mono ?_
    rintro e w' ⟨h1, h2, S', h3, h4⟩
    refine ⟨h1, h2, S', h3, ?_⟩
    unfold partsR
    rw [if_pos ⟨rfl, hl⟩]
    exact h4
  · refine (parts_bad wd kv r p fb k rb slots.length w hk hF hn ?_).mono ?_
    · cases r with
      | false => exact .inl rfl
      | true => exact .inr (fun h => hc ⟨rfl, h⟩)
    rintro e w' ⟨h1, h2, h3⟩
    refine ⟨h1, h2.mono (fun _ _ h => .inl h), S, hT.ext h2 (fun b hb h => (hts b hb).2.2.2 h), ?_⟩
    unfold partsR
    rw [if_neg hc]
    exact h3

end Go.Proofs.YtmcinpeplkkpfaaGreatDoor
