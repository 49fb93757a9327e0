/- Texts put together by wip/shake.py: PTermH, PTermI, PTermJ, PTermAny, PSorted, PManyN, PParam: the walks and the laws that the claim's last theorem rests on. -/
import Derived.Test.YtmcinpeplkkpfaaGreatDoorZ15
import Derived.Test.YtmcinpeplkkpfaaGreatDoorZ16
namespace Go.Proofs.YtmcinpeplkkpfaaGreatDoor
open Go.RowKit
set_option linter.unusedVariables false
set_option linter.unusedSimpArgs false
def scaleS (p : Int) (k : F) : RR Tm := match k with
  | .cons _ _ _ _ (.cons wd1 r1 p1 _ (.cons wd2 r2 p2 k2 .nil)) => match wholeS wd1 r1 p1 with
    | .error e => .error e
    | .ok z => match termS k2 wd2 r2 p2 with
      | .error e => .error e
      | .ok t => .ok (.mk 6 ByteArray.empty z [t])
  | _ => .error p

theorem scale_cases (br1 bt1 br2 bt2 b1 kb : Nat) (p : Int) (k : F) :
    (∃ q, partsR [slotSkip b1, slotZi br1 bt1 b1 2 encZi (fun wd r p _ => wholeS wd r p), slotTm br2 bt2 kb 0 encTm (fun wd r p k => termS k wd r p)] true p k = .error q ∧ scaleS p k = .error q) ∨
    (∃ z t, partsR [slotSkip b1, slotZi br1 bt1 b1 2 encZi (fun wd r p _ => wholeS wd r p), slotTm br2 bt2 kb 0 encTm (fun wd r p k => termS k wd r p)] true p k = .ok [.nil, encZi z, encTm t] ∧ scaleS p k = .ok (.mk 6 ByteArray.empty z [t])) := by
  unfold partsR
  match k with
  | .nil => exact .inl ⟨p, by simp [F.len], rfl⟩
  | .cons _ _ _ _ .nil => exact .inl ⟨p, by simp [F.len], rfl⟩
  | .cons _ _ _ _ (.cons _ _ _ _ .nil) => exact .inl ⟨p, by simp [F.len], rfl⟩
  | .cons _ _ _ _ (.cons _ _ _ _ (.cons _ _ _ _ (.cons _ _ _ _ k4))) => exact .inl ⟨p, by simp [F.len], rfl⟩
  | .cons wd0 r0 p0 k0 (.cons wd1 r1 p1 k1 (.cons wd2 r2 p2 k2 .nil)) =>
    rw [if_pos ⟨rfl, rfl⟩]
    unfold scaleS
    cases hz : wholeS wd1 r1 p1 with
    | error q => exact .inl ⟨q, by simp [slotsR, slotSkip, slotZi, slotTm, mapU, hz], by simp [hz]⟩
    | ok z =>
      cases ht : termS k2 wd2 r2 p2 with
      | error q => exact .inl ⟨q, by simp [slotsR, slotSkip, slotZi, slotTm, mapU, hz, ht], by simp [hz, ht]⟩
      | ok t => exact .inr ⟨z, t, by simp [slotsR, slotSkip, slotZi, slotTm, mapU, hz, ht], by simp [hz, ht]⟩

theorem arr5 {n : Nat} {cs : Array Value} (hn : cs.size = 5) (h : ∀ x ∈ cs, x.oneCell' = true) : ∃ x0 x1 x2 x3 x4, cs = #[x0, x1, x2, x3, x4] ∧ x0.oneCell' = true ∧ x1.oneCell' = true ∧ x2.oneCell' = true ∧ x3.oneCell' = true ∧ x4.oneCell' = true := by
  obtain ⟨x0, x1, x2, x3, x4, e, h0, h1, h2, h3, h4⟩ := len5 (xs := cs.toList) ⟨by simpa using hn, fun x hx => h x (by simpa using hx)⟩
  exact ⟨x0, x1, x2, x3, x4, Array.ext' e, h0, h1, h2, h3, h4⟩

def scaleV (b1 kb : Nat) : Nat → Array Value := fun b => if b = b1 then #[.int .u8 6, .string ⟨#[]⟩, .bool false, .slice none 0 0, .slice (some ⟨kb, 0, none⟩) 1 1] else #[.int .u8 0, .string ⟨#[]⟩, .bool false, .slice none 0 0, .slice none 0 0]

theorem scaleV_1 (b1 kb : Nat) : scaleV b1 kb b1 = #[.int .u8 6, .string ⟨#[]⟩, .bool false, .slice none 0 0, .slice (some ⟨kb, 0, none⟩) 1 1] := if_pos rfl

theorem scaleV_k (b1 kb : Nat) (h : kb ≠ b1) : scaleV b1 kb kb = #[.int .u8 0, .string ⟨#[]⟩, .bool false, .slice none 0 0, .slice none 0 0] := if_neg h

theorem whole_enters : ∀ args w, (callFunc 74 args).run Tryz.prog w = .ok (.enter 74 args) w := enters_of Tryz.func74 (by kernel_rfl) rfl

set_option maxRecDepth 100000 in
set_option maxHeartbeats 2000000 in
theorem term_scale {n B : Nat} (ih : TermC n) (wd : ByteArray) (kv : Value) (p : Int) (fb : Nat) (k : F) (w : World) (hkn : k.size ≤ n) (hks : k.size ≤ 262144) (hB : B ≤ w.heap.size) (hfb : B ≤ fb) (hF : Fst w fb false 0) (hk : Sl (· < B) w kv k) (e1 : wIs (headW true k) [42] = true) :
    Calls Tryz.prog 27 #[nodeV wd kv true p fb] w (RdPost fb (shpN 5) mkAgg encTm (scaleS p k) w) := by
  have hkl := F.len_le_size k
  have HHD := Lib.hid (fun w' (hx : Ext (fun _ => False) w w') => head_any wd kv true p fb k w' (hk.ext hx (fun _ _ h => h)))
  obtain ⟨a, cap, rfl, h1, h2⟩ := hk.shape
  have HK := Lib.hid hk
  obtain ⟨res, hres0⟩ : ∃ res, res = scaleS p k := ⟨_, rfl⟩
  rw [← hres0]
  have HRES := Lib.hid hres0
  clear hres0
  generalize headW true k = s at *
  rw [wIs_iff] at e1
  have e1' : s.toList = [42] := by simpa using e1
  have hx1 := (Ext.refl (fun _ => False) w).alloc (.cells #[.string wd, .slice a k.len cap, .bool true, .int .i64 p, .pointer (some ⟨fb, 0, none⟩)] 57)
  have hx2 := hx1.alloc (.cells #[.int .u8 0, .string ⟨#[]⟩, .bool false, .slice none 0 0, .slice none 0 0] 41)
  have hb2 := Blk.new (w.alloc (.cells #[.string wd, .slice a k.len cap, .bool true, .int .i64 p, .pointer (some ⟨fb, 0, none⟩)] 57)) #[.int .u8 0, .string ⟨#[]⟩, .bool false, .slice none 0 0, .slice none 0 0] 41
  have hn2 := (NodeIn.new w wd (.slice a k.len cap) true p fb).alloc (.cells #[.int .u8 0, .string ⟨#[]⟩, .bool false, .slice none 0 0, .slice none 0 0] 41)
  have hz : (w.alloc (.cells #[.string wd, .slice a k.len cap, .bool true, .int .i64 p, .pointer (some ⟨fb, 0, none⟩)] 57)).heap.size = w.heap.size + 1 := by simp
  have hz2 : ((w.alloc (.cells #[.string wd, .slice a k.len cap, .bool true, .int .i64 p, .pointer (some ⟨fb, 0, none⟩)] 57)).alloc (.cells #[.int .u8 0, .string ⟨#[]⟩, .bool false, .slice none 0 0, .slice none 0 0] 41)).heap.size = w.heap.size + 2 := by simp
  rw [hz] at hb2
  have hF2 := Fst.ext hF hx2 id
  have hfl := Blk.lt hF
  have HZ2 := Lib.hid hz2
  clear hz hz2 hk h1 h2 hx1
  unfold nodeV at *
  go_enter Tryz.func27, Tryz.ntmps27
  go_wp2_with fail
  refine (HHD.out _ hx2).mono ?_
  rintro e w3 ⟨rfl, hx3⟩
  have hb3 := hb2.ext hx3 id
  have hn3 := NodeIn.ext hn2 hx3 id
  have HF3 := Lib.hid (Fst.ext hF2 hx3 id)
  have HX3 := Lib.hid (hx2.trans' hx3)
  have hs3 := hx3.size
  rw [HZ2.out] at hs3
  have l0 : w.heap.size < w3.heap.size := by omega
  have l1 : w.heap.size + 1 < w3.heap.size := by omega
  have c0 := hb3.cell 0
  have c1 := hb3.cell 1
  have c2 := hb3.cell 2
  have c3 := hb3.cell 3
  have c4 := hb3.cell 4
  have f0 := hb3.frozen 0
  have f1 := hb3.frozen 1
  have f2 := hb3.frozen 2
  have f3 := hb3.frozen 3
  have f4 := hb3.frozen 4
  simp only [List.getElem?_toArray, List.getElem?_cons_zero, List.getElem?_cons_succ] at c0 c1 c2 c3 c4
  obtain ⟨n0, n1, n2, n3', n4⟩ := hn3.cells
  clear hx2 hb2 hn2 hF2 hx3
  have hmk : ∀ w, (Instr.makeSlice 39 (.int .i64 1) (.int .i64 1)).run Tryz.prog w = .ok (.slice (some ⟨w.heap.size, 0, none⟩) 1 1) (w.alloc (.cells #[.int .u8 0, .string ⟨#[]⟩, .bool false, .slice none 0 0, .slice none 0 0] 41)) := fun _ => by kernel_rfl
  go_wp2_with fail
  have HNB : w.heap.size + 1 ≠ fb ∧ w.heap.size ≠ fb := by omega
  have hlb : ∀ {M : Prop}, w.heap.size + 1 < w.heap.size → M := fun h => by omega
  have hX4 : Ext (fun _ => False) w ((((w3.setCell ⟨w.heap.size + 1, 0, none⟩ (.int .u8 6)).setCell ⟨w.heap.size + 1, 4, none⟩ (.slice (some ⟨w3.heap.size, 0, none⟩) 1 1)).alloc (.cells #[.int .u8 0, .string ⟨#[]⟩, .bool false, .slice none 0 0, .slice none 0 0] 41)).drew) := (((HX3.out.setCell (p := ⟨w.heap.size + 1, 0, none⟩) hlb (.int .u8 6)).setCell (p := ⟨w.heap.size + 1, 4, none⟩) hlb (.slice (some ⟨w3.heap.size, 0, none⟩) 1 1)).alloc (.cells #[.int .u8 0, .string ⟨#[]⟩, .bool false, .slice none 0 0, .slice none 0 0] 41)).drew
  have hF4 : Fst ((((w3.setCell ⟨w.heap.size + 1, 0, none⟩ (.int .u8 6)).setCell ⟨w.heap.size + 1, 4, none⟩ (.slice (some ⟨w3.heap.size, 0, none⟩) 1 1)).alloc (.cells #[.int .u8 0, .string ⟨#[]⟩, .bool false, .slice none 0 0, .slice none 0 0] 41)).drew) fb false 0 := Fst.drew (Blk.alloc (Fst.setOther (Fst.setOther HF3.out ⟨w.heap.size + 1, 0, none⟩ HNB.1 (.int .u8 6)) ⟨w.heap.size + 1, 4, none⟩ HNB.1 (.slice (some ⟨w3.heap.size, 0, none⟩) 1 1)) (.cells #[.int .u8 0, .string ⟨#[]⟩, .bool false, .slice none 0 0, .slice none 0 0] 41))
  have hb4 := (Blk.alloc ((hb3.set 0 (.int .u8 6)).set 4 (.slice (some ⟨w3.heap.size, 0, none⟩) 1 1)) (.cells #[.int .u8 0, .string ⟨#[]⟩, .bool false, .slice none 0 0, .slice none 0 0] 41)).drewN 1
  have hn4 := (Blk.alloc (Blk.setOther (Blk.setOther hn3 ⟨w.heap.size + 1, 0, none⟩ (by simp) (.int .u8 6)) ⟨w.heap.size + 1, 4, none⟩ (by simp) (.slice (some ⟨w3.heap.size, 0, none⟩) 1 1)) (.cells #[.int .u8 0, .string ⟨#[]⟩, .bool false, .slice none 0 0, .slice none 0 0] 41)).drewN 1
  have hk4 := (Blk.new ((w3.setCell ⟨w.heap.size + 1, 0, none⟩ (.int .u8 6)).setCell ⟨w.heap.size + 1, 4, none⟩ (.slice (some ⟨w3.heap.size, 0, none⟩) 1 1)) #[.int .u8 0, .string ⟨#[]⟩, .bool false, .slice none 0 0, .slice none 0 0] 41).drewN 1
  have hz4 : (((((w3.setCell ⟨w.heap.size + 1, 0, none⟩ (.int .u8 6)).setCell ⟨w.heap.size + 1, 4, none⟩ (.slice (some ⟨w3.heap.size, 0, none⟩) 1 1)).alloc (.cells #[.int .u8 0, .string ⟨#[]⟩, .bool false, .slice none 0 0, .slice none 0 0] 41)).drew)).heap.size = w3.heap.size + 1 := by simp [World.setCell, World.drew]
  have hz4b : (((w3.setCell ⟨w.heap.size + 1, 0, none⟩ (.int .u8 6)).setCell ⟨w.heap.size + 1, 4, none⟩ (.slice (some ⟨w3.heap.size, 0, none⟩) 1 1))).heap.size = w3.heap.size := by simp [World.setCell]
  rw [hz4b] at hk4
  simp only [List.setIfInBounds_toArray, List.set_cons_succ, List.set_cons_zero] at hb4
  have hb4 : Blk ((((w3.setCell ⟨w.heap.size + 1, 0, none⟩ (.int .u8 6)).setCell ⟨w.heap.size + 1, 4, none⟩ (.slice (some ⟨w3.heap.size, 0, none⟩) 1 1)).alloc (.cells #[.int .u8 0, .string ⟨#[]⟩, .bool false, .slice none 0 0, .slice none 0 0] 41)).drew) (w.heap.size + 1) #[.int .u8 6, .string ⟨#[]⟩, .bool false, .slice none 0 0, .slice (some ⟨w3.heap.size, 0, none⟩) 1 1] 41 := hb4
  have hn4 : NodeIn ((((w3.setCell ⟨w.heap.size + 1, 0, none⟩ (.int .u8 6)).setCell ⟨w.heap.size + 1, 4, none⟩ (.slice (some ⟨w3.heap.size, 0, none⟩) 1 1)).alloc (.cells #[.int .u8 0, .string ⟨#[]⟩, .bool false, .slice none 0 0, .slice none 0 0] 41)).drew) w.heap.size wd (.slice a k.len cap) true p fb := hn4
  have hk4 : Blk ((((w3.setCell ⟨w.heap.size + 1, 0, none⟩ (.int .u8 6)).setCell ⟨w.heap.size + 1, 4, none⟩ (.slice (some ⟨w3.heap.size, 0, none⟩) 1 1)).alloc (.cells #[.int .u8 0, .string ⟨#[]⟩, .bool false, .slice none 0 0, .slice none 0 0] 41)).drew) w3.heap.size #[.int .u8 0, .string ⟨#[]⟩, .bool false, .slice none 0 0, .slice none 0 0] 41 := hk4
  have HX4 := Lib.hid hX4
  have HF4 := Lib.hid hF4
  have HB4 := Lib.hid hb4
  have HN4 := Lib.hid hn4
  have HK4 := Lib.hid hk4
  have HZ4 := Lib.hid hz4
  clear hX4 hF4 hb4 hn4 hk4 hz4 hz4b hlb
  go_region
  go_wp2_with fail
  clear c0 c1 c2 c3 c4 f0 f1 f2 f3 f4 n0 n1 n2 n3' n4 hb3 hn3 hmk
  generalize ((((w3.setCell ⟨w.heap.size + 1, 0, none⟩ (.int .u8 6)).setCell ⟨w.heap.size + 1, 4, none⟩ (.slice (some ⟨w3.heap.size, 0, none⟩) 1 1)).alloc (.cells #[.int .u8 0, .string ⟨#[]⟩, .bool false, .slice none 0 0, .slice none 0 0] 41)).drew) = w4 at *
  clear l0 l1 HF3 HX3
  have hkb : w.heap.size + 2 ≤ w3.heap.size := hs3
  clear hs3
  generalize w3.heap.size = kb at *
  obtain ⟨m0, m1, m2, m3, m4⟩ := NodeIn.cells HN4.out
  have m5 := HB4.out.cell 4
  simp only [List.getElem?_toArray, List.getElem?_cons_zero, List.getElem?_cons_succ] at m5
  haveI ne : Nonempty (Wd (fun x => Ext (fun _ => False) w4 x)) := ⟨⟨w4, Ext.refl _ _⟩⟩
  have q0 : ∀ x : (Wd (fun x => Ext (fun _ => False) w4 x)), x.w.cell? ⟨w.heap.size + 1, 4, none⟩ = some (.slice (some ⟨kb, 0, none⟩) 1 1) := fun x => x.ok.cellSome m5 id
  have q1 : ∀ x : (Wd (fun x => Ext (fun _ => False) w4 x)), x.w.cell? ⟨w.heap.size, 0, none⟩ = some (.string wd) := fun x => x.ok.cellSome m0 id
  have q2 : ∀ x : (Wd (fun x => Ext (fun _ => False) w4 x)), x.w.cell? ⟨w.heap.size, 1, none⟩ = some (.slice a k.len cap) := fun x => x.ok.cellSome m1 id
  have q3 : ∀ x : (Wd (fun x => Ext (fun _ => False) w4 x)), x.w.cell? ⟨w.heap.size, 2, none⟩ = some (.bool true) := fun x => x.ok.cellSome m2 id
  have q4 : ∀ x : (Wd (fun x => Ext (fun _ => False) w4 x)), x.w.cell? ⟨w.heap.size, 3, none⟩ = some (.int .i64 p) := fun x => x.ok.cellSome m3 id
  have q5 : ∀ x : (Wd (fun x => Ext (fun _ => False) w4 x)), x.w.cell? ⟨w.heap.size, 4, none⟩ = some (.pointer (some ⟨fb, 0, none⟩)) := fun x => x.ok.cellSome m4 id
  clear m0 m1 m2 m3 m4 m5
  refine wp_region_steps (S := fun x => Ext (fun _ => False) w4 x) [([0, 1, 3, 4, 5], [2]), ([], [6]), ([], [7])] _ (by kernel_rfl) (by kernel_rfl) rfl (by kernel_rfl) (fun _ d _ _ _ h => by cases d <;> exact h) (Ext.refl _ _).drew ?_
  simp only [segOps, List.filterMap_cons, List.filterMap_nil, List.getElem?_cons_zero, List.getElem?_cons_succ]
  refine wpSegs_cons ?_
  change wpQuiet _ _ _ _ (_ :: _ :: _ :: _ :: _ :: []) _
  repeat (go_big_quiet_step (fail))
  refine wpQuiet_nil ?_
  refine wpLoud_step rfl (fun K hK => ?_)
  go_simp
  refine (intoZi_mk _ _ _ ⟨_, rfl⟩ ⟨_, rfl⟩).mono ?_
  rintro e w5 ⟨br1, bt1, rfl, hx5, ⟨tr1, hr1⟩, ⟨tt1, ht1⟩, hg1, hg2⟩
  have hx5 : Ext (fun _ => False) w4 w5 := ⟨hx5.os, hx5.tape, hx5.output, hx5.size, hx5.block⟩
  have hg1 : w4.heap.size ≤ br1 := hg1
  have hg2 : w4.heap.size ≤ bt1 := hg2
  refine hK _ _ hx5 ?_
  clear hK
  have HX5 := Lib.hid hx5
  have HR1 := Lib.hid hr1
  have HT1 := Lib.hid ht1
  have hz5 := hx5.size
  clear hx5 hr1 ht1
  refine wpLoud_nil ?_
  refine wpSegs_cons ?_
  refine wpQuiet_nil ?_
  refine wpLoud_step rfl (fun K hK => ?_)
  go_simp
  refine (intoTm_mk _ _ _ ⟨_, rfl⟩ ⟨_, rfl⟩).mono ?_
  rintro e w6 ⟨br2, bt2, rfl, hx6, ⟨tr2, hr2⟩, ⟨tt2, ht2⟩, hg3, hg4⟩
  refine hK _ _ (HX5.out.trans' hx6) ?_
  clear hK
  have HX6 := Lib.hid hx6
  have HR2 := Lib.hid hr2
  have HT2 := Lib.hid ht2
  have hz6 := hx6.size
  clear hx6 hr2 ht2
  refine wpLoud_nil ?_
  refine wpSegs_cons ?_
  refine wpQuiet_nil ?_
  refine wpLoud_step rfl (fun K hK => ?_)
  go_simp
  refine hK _ _ ((HX5.out.trans' HX6.out).alloc _) ?_
  clear hK
  refine wpLoud_nil ?_
  refine wpSegs_nil ?_
  clear q0 q1 q2 q3 q4 q5 ne
  have hx47 := (HX5.out.trans' HX6.out).alloc (.cells #[.func (.func 43) #[] #[], .func (.func 122) #[] #[.pointer (some ⟨br1, 0, none⟩), .pointer (some ⟨bt1, 0, none⟩)], .func (.func 96) #[] #[.pointer (some ⟨br2, 0, none⟩), .pointer (some ⟨bt2, 0, none⟩)]] 103)
  have hRB := Blk.new w6 #[.func (.func 43) #[] #[], .func (.func 122) #[] #[.pointer (some ⟨br1, 0, none⟩), .pointer (some ⟨bt1, 0, none⟩)], .func (.func 96) #[] #[.pointer (some ⟨br2, 0, none⟩), .pointer (some ⟨bt2, 0, none⟩)]] 103
  have hz7 : (w6.alloc (.cells #[.func (.func 43) #[] #[], .func (.func 122) #[] #[.pointer (some ⟨br1, 0, none⟩), .pointer (some ⟨bt1, 0, none⟩)], .func (.func 96) #[] #[.pointer (some ⟨br2, 0, none⟩), .pointer (some ⟨bt2, 0, none⟩)]] 103)).heap.size = w6.heap.size + 1 := by simp
  have hr17 := (HR1.out.ext HX6.out id).alloc (.cells #[.func (.func 43) #[] #[], .func (.func 122) #[] #[.pointer (some ⟨br1, 0, none⟩), .pointer (some ⟨bt1, 0, none⟩)], .func (.func 96) #[] #[.pointer (some ⟨br2, 0, none⟩), .pointer (some ⟨bt2, 0, none⟩)]] 103)
  have ht17 := (HT1.out.ext HX6.out id).alloc (.cells #[.func (.func 43) #[] #[], .func (.func 122) #[] #[.pointer (some ⟨br1, 0, none⟩), .pointer (some ⟨bt1, 0, none⟩)], .func (.func 96) #[] #[.pointer (some ⟨br2, 0, none⟩), .pointer (some ⟨bt2, 0, none⟩)]] 103)
  have hr27 := HR2.out.alloc (.cells #[.func (.func 43) #[] #[], .func (.func 122) #[] #[.pointer (some ⟨br1, 0, none⟩), .pointer (some ⟨bt1, 0, none⟩)], .func (.func 96) #[] #[.pointer (some ⟨br2, 0, none⟩), .pointer (some ⟨bt2, 0, none⟩)]] 103)
  have ht27 := HT2.out.alloc (.cells #[.func (.func 43) #[] #[], .func (.func 122) #[] #[.pointer (some ⟨br1, 0, none⟩), .pointer (some ⟨bt1, 0, none⟩)], .func (.func 96) #[] #[.pointer (some ⟨br2, 0, none⟩), .pointer (some ⟨bt2, 0, none⟩)]] 103)
  generalize w6.alloc (.cells #[.func (.func 43) #[] #[], .func (.func 122) #[] #[.pointer (some ⟨br1, 0, none⟩), .pointer (some ⟨bt1, 0, none⟩)], .func (.func 96) #[] #[.pointer (some ⟨br2, 0, none⟩), .pointer (some ⟨bt2, 0, none⟩)]] 103) = w7 at *
  have hX7 := HX4.out.trans' hx47
  have hF7 := Fst.ext HF4.out hx47 id
  have hb7 := HB4.out.ext hx47 id
  have hk7 := HK4.out.ext hx47 id
  have hz4 := HZ4.out
  have a1 := hr17.lt
  have a2 := ht17.lt
  have a3 := hr27.lt
  have a4 := ht27.lt
  have PARTS := parts_any (B := B) [w.heap.size + 1, kb] (fun _ => 41) (scaleV (w.heap.size + 1) kb) [slotSkip (w.heap.size + 1), slotZi br1 bt1 (w.heap.size + 1) 2 encZi (fun wd r p _ => wholeS wd r p), slotTm br2 bt2 kb 0 encTm (fun wd r p k => termS k wd r p)] wd (.slice a k.len cap) true p fb k w6.heap.size 103 w7 (HK.out.ext hX7 (fun _ _ h => h)) hF7 hRB (by simp) hfb
    (fun b hb => by
      simp only [List.mem_cons, List.not_mem_nil, or_false] at hb
      rcases hb with rfl | rfl <;> omega)
    (by omega)
    (fun b hb => by
      simp only [List.mem_cons, List.not_mem_nil, or_false] at hb
      rcases hb with rfl | rfl
      · rw [scaleV_1]; exact ⟨hb7, rfl, by simp [Value.oneCell']⟩
      · rw [scaleV_k _ _ (by omega)]; exact ⟨hk7, rfl, by simp [Value.oneCell']⟩)
    (fun s hs => by
      simp only [List.mem_cons, List.not_mem_nil, or_false] at hs
      rcases hs with rfl | rfl | rfl <;> simp [slotSkip, slotZi, slotTm])
    (fun s hs xs hx => by
      simp only [List.mem_cons, List.not_mem_nil, or_false] at hs
      rcases hs with rfl | rfl | rfl
      · have hx : xs = [] := hx
        subst hx; simp
      · exact shpN_one (n := 2) hx
      · exact shpN_one (n := 5) hx)
    (fun s hs => by
      simp only [List.mem_cons, List.not_mem_nil, or_false] at hs
      rcases hs with rfl | rfl | rfl
      · exact skip_enters
      · exact intoZi_enters
      · exact intoTm_enters)
    (fun i h wd1 r1 p1 k1 hg => by
      have h : i < 3 := h
      have hb1 : w.heap.size + 1 ≠ kb := by omega
      match i, h with
      | 0, _ => exact does_skip _ _ _ _ _
      | 1, _ => exact doesZi br1 bt1 (w.heap.size + 1) 2 encZi (fun wd r p _ => wholeS wd r p) wd1 r1 p1 k1 hr17 ht17 ⟨by omega, by simp; omega⟩ ⟨by omega, by simp; omega⟩ (by rw [scaleV_1]; simp) HNB.1 (by omega) (by omega) whole_enters (fun kv1 w1 hB hF hsl hwd => whole_any wd1 kv1 r1 p1 fb k1 w1 hF hsl)
      | 2, _ => exact doesTm br2 bt2 kb 0 encTm (fun wd r p k => termS k wd r p) wd1 r1 p1 k1 hr27 ht27 ⟨by omega, by simp; omega⟩ ⟨by omega, by simp; omega⟩ (by rw [scaleV_k _ _ (by omega)]; simp) (by omega) (by omega) (by omega) term_enters (fun kv1 w1 hB hF hsl hwd => ih B fb wd1 kv1 r1 p1 k1 w1 (by have := F.get_size hg; omega) (by have := F.get_size hg; omega) hB hfb hF hsl hwd))
  have HPARTS := Lib.hid PARTS
  have HX7 := Lib.hid hX7
  have HZ7 : Hid (w.heap.size + 2 ≤ kb ∧ kb < w7.heap.size) := Lib.hid (by omega)
  clear PARTS hX7 hF7 hb7 hk7 hx47 hRB hr17 ht17 hr27 ht27
  unfold nodeV at HPARTS
  go_wp2_with fail
  refine HPARTS.out.mono ?_
  rintro e w8 ⟨rfl, hx8, S', hT8, hres⟩
  have hTb := hT8 (w.heap.size + 1) (by simp)
  have hTk := (hT8 kb (by simp)).1
  obtain ⟨hb8, hsz8, hone8⟩ := hTb
  rw [scaleV_1] at hsz8
  obtain ⟨x0, x1, x2, x3, x4, hS, o0, o1, o2, o3, o4⟩ := arr5 (n := 0) hsz8 hone8
  rw [hS] at hb8
  have HS := Lib.hid hS
  have HX8 : Hid (Ext (· = fb) w w8) := Lib.hid ((HX7.out.mono (M' := (· = fb)) (fun _ _ h => h.elim)).trans hx8 (fun b hb h => h.elim id (fun h => by
    simp only [List.mem_cons, List.not_mem_nil, or_false] at h
    have := HZ7.out
    rcases h with h | h <;> omega)))
  have HR8 := Lib.hid hres
  have HTK := Lib.hid hTk
  have hz8 := hx8.size
  have l9 : w.heap.size + 1 < w8.heap.size := by have := HZ7.out; omega
  clear hS hx8 hres hTk hT8 hsz8 hone8 hz8
  have c0 := hb8.cell 0
  have c1 := hb8.cell 1
  have c2 := hb8.cell 2
  have c3 := hb8.cell 3
  have c4 := hb8.cell 4
  have f0 := hb8.frozen 0
  have f1 := hb8.frozen 1
  have f2 := hb8.frozen 2
  have f3 := hb8.frozen 3
  have f4 := hb8.frozen 4
  simp only [List.getElem?_toArray, List.getElem?_cons_zero, List.getElem?_cons_succ] at c0 c1 c2 c3 c4
  have st0 := store_ok (P := Tryz.prog) (hb8) 0 x0 (by simp) o0
  have st1 := store_ok (P := Tryz.prog) ((hb8.set 0 x0)) 1 x1 (by simp) o1
  have st2 := store_ok (P := Tryz.prog) (((hb8.set 0 x0).set 1 x1)) 2 x2 (by simp) o2
  have st3 := store_ok (P := Tryz.prog) ((((hb8.set 0 x0).set 1 x1).set 2 x2)) 3 x3 (by simp) o3
  have st4 := store_ok (P := Tryz.prog) (((((hb8.set 0 x0).set 1 x1).set 2 x2).set 3 x3)) 4 x4 (by simp) o4
  clear hb8
  go_wp2_with fail
  refine bodyPost_ret (v := .agg #[x0, x1, x2, x3, x4]) (by simp [results, Tryz.results27, go_sem, *]) rfl ⟨?_, [x0, x1, x2, x3, x4], rfl, ⟨rfl, by simp [o0, o1, o2, o3, o4]⟩, ?_⟩
  · exact sets_ext (b := w.heap.size + 1) (fun h => by have : w.heap.size + 1 < w.heap.size := h; omega) [x0, x1, x2, x3, x4] 0 _ HX8.out
  · rw [HRES.out]
    have h := HR8.out
    have hz7 := HZ7.out
    rcases scale_cases br1 bt1 br2 bt2 (w.heap.size + 1) kb p k with ⟨q, h1, h2⟩ | ⟨z, t, h1, h2⟩
    · rw [h1] at h
      rw [h2]
      exact sets_blk (b := w.heap.size + 1) HNB.1 [x0, x1, x2, x3, x4] 0 _ h
    · rw [h1] at h
      rw [h2]
      obtain ⟨hf8, xss, hp, hsr⟩ := h
      match xss, hsr, hp with
      | [y0, y1, y2], ⟨e0, _, s1, g1, s2, g2, _⟩, hp =>
        obtain ⟨z0, z1, rfl, _, _⟩ := len2 s1
        obtain ⟨t0, t1, t2, t3, t4, rfl, _, _, _, _, _⟩ := len5 s2
        have e0 : y0 = [] := e0
        subst e0
        have hne : w.heap.size + 1 ≠ kb := by omega
        have hne2 : kb ≠ w.heap.size + 1 := by omega
        have hS := HS.out
        have hTK := HTK.out
        rw [hp] at hS hTK
        simp [puts, put, slotSkip, slotZi, slotTm, putL, hne, hne2, scaleV] at hS hTK
        obtain ⟨rfl, rfl, rfl, rfl, rfl⟩ := hS
        refine ⟨sets_blk (b := w.heap.size + 1) HNB.1 [.int .u8 6, .string ⟨#[]⟩, z0, z1, .slice (some ⟨kb, 0, none⟩) 1 1] 0 _ hf8, (sets_rep (b := w.heap.size + 1) (D := fun b => w.heap.size + 2 ≤ b) (by omega) [.int .u8 6, .string ⟨#[]⟩, z0, z1, .slice (some ⟨kb, 0, none⟩) 1 1] 0 _ (show Rep (fun b => w.heap.size + 2 ≤ b) w8 (encTm (.mk 6 ByteArray.empty z [t])) [.int .u8 6, .string ⟨#[]⟩, z0, z1, .slice (some ⟨kb, 0, none⟩) 1 1] from ?_)).mono (fun b hb _ => by have : w.heap.size + 2 ≤ b := hb; omega)⟩
        have g1 := g1.mono (D' := fun b => w.heap.size + 2 ≤ b) (fun b hb _ => by have : w7.heap.size ≤ b := hb; omega)
        have g2 := g2.mono (D' := fun b => w.heap.size + 2 ≤ b) (fun b hb _ => by have : w7.heap.size ≤ b := hb; omega)
        obtain ⟨_, e1, v, ys, _, e2, r1, hh1, rfl⟩ := g1
        subst e2
        simp only [List.cons.injEq, and_true] at e1
        obtain ⟨rfl, rfl⟩ := e1
        exact ⟨_, rfl, _, rfl, by decide, _, rfl, _, ys, _, rfl, r1, hh1, _, [t0, t1, t2, t3, t4], [], rfl, g2, ⟨some ⟨kb, 0, none⟩, 1, rfl, Nat.le_refl 1, by decide, fun h => by simp at h, .inr ⟨kb, 0, rfl, hz7.1, fun i x hx => by rw [Nat.zero_add, hTK.cell i]; simpa using hx⟩⟩, rfl⟩

end Go.Proofs.YtmcinpeplkkpfaaGreatDoor

namespace Go.Proofs.YtmcinpeplkkpfaaGreatDoor
open Go.RowKit
set_option linter.unusedVariables false
set_option linter.unusedSimpArgs false
set_option maxRecDepth 100000 in
set_option maxHeartbeats 6000000 in
theorem term_none2 {n B : Nat} (ih : TermC n) (wd : ByteArray) (kv : Value) (p : Int) (fb : Nat) (k : F) (w : World) (hkn : k.size ≤ n) (hks : k.size ≤ 262144) (hB : B ≤ w.heap.size) (hfb : B ≤ fb) (hF : Fst w fb false 0) (hk : Sl (· < B) w kv k) (hs : (headW true k).size ≤ maxLen)
    (hform : formV (headW true k) = .tuple #[.agg #[.int .u8 0, .int .i64 0], .bool false]) (e1 : wIs (headW true k) [42] = false) (e2 : wIs (headW true k) [107, 97, 112, 112, 97] = true) (hl : k.len < 2) (hfun : isFun (headW true k) = false) :
    Calls Tryz.prog 27 #[nodeV wd kv true p fb] w (RdPost fb (shpN 5) mkAgg encTm (.error p : RR Tm) w) := by
  have hkl := F.len_le_size k
  have HHD := Lib.hid (fun w' (hx : Ext (fun _ => False) w w') => head_any wd kv true p fb k w' (hk.ext hx (fun _ _ h => h)))
  obtain ⟨a, cap, rfl, h1, h2⟩ := hk.shape
  have HFN := Lib.hid (fun w => function_any (headW true k) w hs)
  rw [hfun] at HFN
  have g2 : decide (2 ≤ (k.len : Int)) = false := by simp; omega
  have g1 : ¬ (2 : Int) ≤ (k.len : Int) := by omega
  clear hfun hl
  generalize headW true k = s at *
  rw [wIs_iff] at e1 e2
  have e1' : ¬ s.toList = [42] := by simpa using e1
  have e2' : s.toList = [107, 97, 112, 112, 97] := by simpa using e2
  have hm := form_make
  have s0 := fun w => form_step w 0 (⟨#[43]⟩ : ByteArray) _ rfl rfl
  have s1 := fun w => form_step w 1 (⟨#[61]⟩ : ByteArray) _ rfl rfl
  have s2 := fun w => form_step w 2 (⟨#[60, 61]⟩ : ByteArray) _ rfl rfl
  have s3 := fun w => form_step w 3 (⟨#[110, 111, 116]⟩ : ByteArray) _ rfl rfl
  have s4 := fun w => form_step w 4 (⟨#[97, 110, 100]⟩ : ByteArray) _ rfl rfl
  have s5 := fun w => form_step w 5 (⟨#[111, 114]⟩ : ByteArray) _ rfl rfl
  have s6 := fun w => form_step w 6 (⟨#[105, 102, 102]⟩ : ByteArray) _ rfl rfl
  have sq := fun w => form_ask w s
  rw [hform] at sq
  simp only [Nat.zero_add, Nat.reduceAdd] at s0 s1 s2 s3 s4 s5 s6
  have hx1 := (Ext.refl (fun _ => False) w).alloc (.cells #[.string wd, .slice a k.len cap, .bool true, .int .i64 p, .pointer (some ⟨fb, 0, none⟩)] 57)
  have hx2 := hx1.alloc (.cells #[.int .u8 0, .string ⟨#[]⟩, .bool false, .slice none 0 0, .slice none 0 0] 41)
  have hb2 := Blk.new (w.alloc (.cells #[.string wd, .slice a k.len cap, .bool true, .int .i64 p, .pointer (some ⟨fb, 0, none⟩)] 57)) #[.int .u8 0, .string ⟨#[]⟩, .bool false, .slice none 0 0, .slice none 0 0] 41
  have hn2 := (NodeIn.new w wd (.slice a k.len cap) true p fb).alloc (.cells #[.int .u8 0, .string ⟨#[]⟩, .bool false, .slice none 0 0, .slice none 0 0] 41)
  have hz : (w.alloc (.cells #[.string wd, .slice a k.len cap, .bool true, .int .i64 p, .pointer (some ⟨fb, 0, none⟩)] 57)).heap.size = w.heap.size + 1 := by simp
  have hz2 : ((w.alloc (.cells #[.string wd, .slice a k.len cap, .bool true, .int .i64 p, .pointer (some ⟨fb, 0, none⟩)] 57)).alloc (.cells #[.int .u8 0, .string ⟨#[]⟩, .bool false, .slice none 0 0, .slice none 0 0] 41)).heap.size = w.heap.size + 2 := by simp
  rw [hz] at hb2
  have hF2 := Fst.ext hF hx2 id
  have hfl := Blk.lt hF
  have HZ2 := Lib.hid hz2
  clear hz hz2 hk h1 h2 hx1
  unfold nodeV at *
  clear hform
  go_enter Tryz.func27, Tryz.ntmps27
  go_wp2_with fail
  refine (HHD.out _ hx2).mono ?_
  rintro e w3 ⟨rfl, hx3⟩
  have hb3 := hb2.ext hx3 id
  have hn3 := NodeIn.ext hn2 hx3 id
  have HF3 := Lib.hid (Fst.ext hF2 hx3 id)
  have HX3 := Lib.hid (hx2.trans' hx3)
  have hs3 := hx3.size
  rw [HZ2.out] at hs3
  have l0 : w.heap.size < w3.heap.size := by omega
  have l1 : w.heap.size + 1 < w3.heap.size := by omega
  have c0 := hb3.cell 0
  have c1 := hb3.cell 1
  have c2 := hb3.cell 2
  have c3 := hb3.cell 3
  have c4 := hb3.cell 4
  have f0 := hb3.frozen 0
  have f1 := hb3.frozen 1
  have f2 := hb3.frozen 2
  have f3 := hb3.frozen 3
  have f4 := hb3.frozen 4
  simp only [List.getElem?_toArray, List.getElem?_cons_zero, List.getElem?_cons_succ] at c0 c1 c2 c3 c4
  obtain ⟨n0, n1, n2, n3', n4⟩ := hn3.cells
  clear hx2 hb2 hn2 hF2 hx3
  have hsp := Blk.new (w3.alloc (formE 7)) #[.int .u8 0, .int .i64 0] 170
  have hz4 : (w3.alloc (formE 7)).heap.size = w3.heap.size + 1 := by simp
  rw [hz4] at hsp
  have hb4 := (hb3.alloc (formE 7)).alloc (.cells #[.int .u8 0, .int .i64 0] 170)
  have hn4 := Blk.alloc (Blk.alloc hn3 (formE 7)) (.cells #[.int .u8 0, .int .i64 0] 170)
  have hF4 := Blk.alloc (Blk.alloc HF3.out (formE 7)) (.cells #[.int .u8 0, .int .i64 0] 170)
  have hX4 := (HX3.out.alloc (formE 7)).alloc (.cells #[.int .u8 0, .int .i64 0] 170)
  have hz5 : ((w3.alloc (formE 7)).alloc (.cells #[.int .u8 0, .int .i64 0] 170)).heap.size = w3.heap.size + 2 := by simp
  have HSP := Lib.hid hsp
  have HB4 := Lib.hid hb4
  have HN4 := Lib.hid hn4
  have HF4 := Lib.hid hF4
  have HX4 := Lib.hid hX4
  have HZ5 := Lib.hid hz5
  clear hsp hz4 hb4 hn4 hF4 hX4 hz5 hb3 hn3
  go_wp2_with fail
  refine (HFN.out _).mono ?_
  rintro e w4' ⟨rfl, hx4'⟩
  have HX4 : Hid (Ext (fun _ => False) w w4') := Lib.hid (HX4.out.trans' hx4')
  have HB4 : Hid (Blk w4' (w.heap.size + 1) #[.int .u8 0, .string ⟨#[]⟩, .bool false, .slice none 0 0, .slice none 0 0] 41) := Lib.hid (HB4.out.ext hx4' id)
  have HF4 : Hid (Fst w4' fb false 0) := Lib.hid (Fst.ext HF4.out hx4' id)
  have HN4 : Hid (NodeIn w4' w.heap.size wd (.slice a k.len cap) true p fb) := Lib.hid (NodeIn.ext HN4.out hx4' id)
  have hsp5 := HSP.out.ext hx4' id
  have p0 := hsp5.cell 0
  have p1 := hsp5.cell 1
  simp only [List.getElem?_toArray, List.getElem?_cons_zero, List.getElem?_cons_succ] at p0 p1
  have hb5 := HB4.out
  clear c0 c1 c2 c3 c4 f0 f1 f2 f3 f4 n0 n1 n2 n3' n4 hm s0 s1 s2 s3 s4 s5 s6 sq hsp5
  have c0 := hb5.cell 0
  have c1 := hb5.cell 1
  have c2 := hb5.cell 2
  have c3 := hb5.cell 3
  have c4 := hb5.cell 4
  have f0 := hb5.frozen 0
  have f1 := hb5.frozen 1
  have f2 := hb5.frozen 2
  have f3 := hb5.frozen 3
  have f4 := hb5.frozen 4
  simp only [List.getElem?_toArray, List.getElem?_cons_zero, List.getElem?_cons_succ] at c0 c1 c2 c3 c4
  obtain ⟨n0, n1, n2, n3', n4⟩ := NodeIn.cells HN4.out
  clear hb5 hx4'
  go_wp2_with fail
  refine (fault_no wd _ true p fb 0 _ ⟨_, _, _, rfl⟩ HF4.out).mono ?_
  rintro e w5 ⟨rfl, hx5, hf5⟩
  have HX5 := Lib.hid ((HX4.out.mono (M' := (· = fb)) (fun _ _ h => h.elim)).trans' hx5)
  have HF5 := Lib.hid hf5
  have hb5 := HB4.out.ext hx5 (by omega)
  clear c0 c1 c2 c3 c4 f0 f1 f2 f3 f4 hx5 hf5
  have c0 := hb5.cell 0
  have c1 := hb5.cell 1
  have c2 := hb5.cell 2
  have c3 := hb5.cell 3
  have c4 := hb5.cell 4
  have f0 := hb5.frozen 0
  have f1 := hb5.frozen 1
  have f2 := hb5.frozen 2
  have f3 := hb5.frozen 3
  have f4 := hb5.frozen 4
  simp only [List.getElem?_toArray, List.getElem?_cons_zero, List.getElem?_cons_succ] at c0 c1 c2 c3 c4
  go_wp2_with fail
  refine bodyPost_ret (v := .agg #[.int .u8 0, .string ⟨#[]⟩, .bool false, .slice none 0 0, .slice none 0 0]) (by simp [results, Tryz.results27, go_sem, *]) rfl ⟨?_, [.int .u8 0, .string ⟨#[]⟩, .bool false, .slice none 0 0, .slice none 0 0], rfl, ⟨rfl, by simp [Value.oneCell']⟩, ?_⟩
  · exact sets_ext (b := w.heap.size + 1) (fun h => by have : w.heap.size + 1 < w.heap.size := h; omega) [.int .u8 0, .string ⟨#[]⟩, .bool false, .slice none 0 0, .slice none 0 0] 0 _ HX5.out
  · exact sets_blk (b := w.heap.size + 1) (by omega) [.int .u8 0, .string ⟨#[]⟩, .bool false, .slice none 0 0, .slice none 0 0] 0 _ HF5.out

end Go.Proofs.YtmcinpeplkkpfaaGreatDoor

namespace Go.Proofs.YtmcinpeplkkpfaaGreatDoor
open Go.RowKit
set_option linter.unusedVariables false
set_option linter.unusedSimpArgs false
set_option maxRecDepth 100000 in
set_option maxHeartbeats 6000000 in
theorem term_word {B : Nat} (wd : ByteArray) (kv : Value) (p : Int) (fb : Nat) (k : F) (w : World) (hF : Fst w fb false 0) (hk : Sl (· < B) w kv k) (hwd : wd.size ≤ maxLen) :
    Calls Tryz.prog 27 #[nodeV wd kv false p fb] w (RdPost fb (shpN 5) mkAgg encTm (wordS wd false p) w) := by
  have HW := Lib.hid (fun w' (hx : Ext (fun _ => False) w w') => word_any wd kv false p fb k w' (Fst.ext hF hx id) (hk.ext hx (fun _ _ h => h)) hwd)
  obtain ⟨a, cap, rfl, h1, h2⟩ := hk.shape
  generalize wordS wd false p = res at *
  have hx1 := (Ext.refl (fun _ => False) w).alloc (.cells #[.string wd, .slice a k.len cap, .bool false, .int .i64 p, .pointer (some ⟨fb, 0, none⟩)] 57)
  have hx2 := hx1.alloc (.cells #[.int .u8 0, .string ⟨#[]⟩, .bool false, .slice none 0 0, .slice none 0 0] 41)
  have hb2 := Blk.new (w.alloc (.cells #[.string wd, .slice a k.len cap, .bool false, .int .i64 p, .pointer (some ⟨fb, 0, none⟩)] 57)) #[.int .u8 0, .string ⟨#[]⟩, .bool false, .slice none 0 0, .slice none 0 0] 41
  have hz : (w.alloc (.cells #[.string wd, .slice a k.len cap, .bool false, .int .i64 p, .pointer (some ⟨fb, 0, none⟩)] 57)).heap.size = w.heap.size + 1 := by simp
  have hz2 : ((w.alloc (.cells #[.string wd, .slice a k.len cap, .bool false, .int .i64 p, .pointer (some ⟨fb, 0, none⟩)] 57)).alloc (.cells #[.int .u8 0, .string ⟨#[]⟩, .bool false, .slice none 0 0, .slice none 0 0] 41)).heap.size = w.heap.size + 2 := by simp
  rw [hz] at hb2
  have hfl := Blk.lt hF
  have HZ2 := Lib.hid hz2
  clear hz hz2 hk h1 h2 hx1
  unfold nodeV at *
  go_enter Tryz.func27, Tryz.ntmps27
  go_wp2_with fail
  have hwp := HW.out _ hx2
  refine hwp.mono ?_
  rintro e w3 ⟨hx3, xs, rfl, hsh, hres⟩
  obtain ⟨x0, x1, x2, x3, x4, rfl, o0, o1, o2, o3, o4⟩ := len5 hsh
  simp only [mkAgg] at *
  have hb3 := hb2.ext hx3 (by omega)
  have HX3 := Lib.hid ((hx2.mono (M' := (· = fb)) (fun _ _ h => h.elim)).trans' hx3)
  rw [HZ2.out] at hres
  have HR3 := Lib.hid hres
  have hs3 := hx3.size
  rw [HZ2.out] at hs3
  have l1 : w.heap.size + 1 < w3.heap.size := by omega
  have c0 := hb3.cell 0
  have c1 := hb3.cell 1
  have c2 := hb3.cell 2
  have c3 := hb3.cell 3
  have c4 := hb3.cell 4
  have f0 := hb3.frozen 0
  have f1 := hb3.frozen 1
  have f2 := hb3.frozen 2
  have f3 := hb3.frozen 3
  have f4 := hb3.frozen 4
  simp only [List.getElem?_toArray, List.getElem?_cons_zero, List.getElem?_cons_succ] at c0 c1 c2 c3 c4
  have st0 := store_ok (P := Tryz.prog) (hb3) 0 x0 (by simp) o0
  have st1 := store_ok (P := Tryz.prog) ((hb3.set 0 x0)) 1 x1 (by simp) o1
  have st2 := store_ok (P := Tryz.prog) (((hb3.set 0 x0).set 1 x1)) 2 x2 (by simp) o2
  have st3 := store_ok (P := Tryz.prog) ((((hb3.set 0 x0).set 1 x1).set 2 x2)) 3 x3 (by simp) o3
  have st4 := store_ok (P := Tryz.prog) (((((hb3.set 0 x0).set 1 x1).set 2 x2).set 3 x3)) 4 x4 (by simp) o4
  clear hb3 hx2 hx3 hres hwp hb2
  go_wp2_with fail
  refine bodyPost_ret (v := .agg #[x0, x1, x2, x3, x4]) (by simp [results, Tryz.results27, go_sem, *]) rfl ⟨?_, [x0, x1, x2, x3, x4], rfl, ⟨rfl, by simp [o0, o1, o2, o3, o4]⟩, ?_⟩
  · exact sets_ext (b := w.heap.size + 1) (fun h => by have : w.heap.size + 1 < w.heap.size := h; omega) [x0, x1, x2, x3, x4] 0 _ HX3.out
  · have h := HR3.out
    cases res with
    | error q => exact sets_blk (b := w.heap.size + 1) (by omega) [x0, x1, x2, x3, x4] 0 _ h
    | ok t => exact ⟨sets_blk (b := w.heap.size + 1) (by omega) [x0, x1, x2, x3, x4] 0 _ h.1, (sets_rep (b := w.heap.size + 1) (D := fun b => w.heap.size + 2 ≤ b) (by omega) [x0, x1, x2, x3, x4] 0 _ h.2).mono (fun b hb _ => by have : w.heap.size + 2 ≤ b := hb; omega)⟩

end Go.Proofs.YtmcinpeplkkpfaaGreatDoor

namespace Go.Proofs.YtmcinpeplkkpfaaGreatDoor
open Go.RowKit
set_option linter.unusedVariables false
set_option linter.unusedSimpArgs false
theorem termS_false (k : F) (wd : ByteArray) (p : Int) : termS k wd false p = wordS wd false p := by cases k <;> (unfold termS; rfl)

theorem formV_none {s : ByteArray} (h : formS s = none) : formV s = .tuple #[.agg #[.int .u8 0, .int .i64 0], .bool false] := by unfold formV; rw [h]

theorem headW_cons (wd0 : ByteArray) (r0 : Bool) (p0 : Int) (k0 rest : F) : headW true (.cons wd0 r0 p0 k0 rest) = if r0 then ByteArray.empty else wd0 := by cases r0 <;> rfl

theorem dropN_zero (k : F) : k.dropN 0 = k := by cases k <;> rfl

theorem head_size {D : Nat → Prop} {w : World} {kv : Value} {k : F} (h : Sl D w kv k) : (headW true k).size ≤ maxLen := by
  cases k with
  | nil => exact Nat.zero_le _
  | cons wd0 r0 p0 k0 rest =>
    obtain ⟨ys, ⟨_, _, _, _, hs, _⟩, _⟩ := h
    rw [headW_cons]
    cases r0
    · exact hs
    · exact Nat.zero_le _

theorem termS_scale (k : F) (wd : ByteArray) (p : Int) (e1 : wIs (headW true k) [42] = true) : termS k wd true p = scaleS p k := by
  cases k with
  | nil => exact absurd e1 (by decide)
  | cons wd0 r0 p0 k0 rest =>
    rw [headW_cons] at e1
    unfold termS scaleS
    simp only [if_true, e1]
    cases rest with
    | nil => rfl
    | cons _ _ _ _ r2 => cases r2 with
      | nil => rfl
      | cons _ _ _ _ r3 => cases r3 <;> rfl

theorem termS_kappa (k : F) (wd : ByteArray) (p : Int) (e1 : wIs (headW true k) [42] = false) (e2 : wIs (headW true k) [107, 97, 112, 112, 97] = true) {wd1 r1 p1 k1} (hg : k.get 1 = some (wd1, r1, p1, k1)) : termS k wd true p = kapR (nameS wd1 r1 p1) (termsS (k.dropN 2)) := by
  cases k with
  | nil => simp [F.get] at hg
  | cons wd0 r0 p0 k0 rest =>
    rw [headW_cons] at e1 e2
    cases rest with
    | nil => simp [F.get] at hg
    | cons wd2 r2 p2 k2 rest =>
      simp only [F.get, Option.some.injEq, Prod.mk.injEq] at hg
      obtain ⟨rfl, rfl, rfl, rfl⟩ := hg
      unfold termS
      simp only [if_true, e1, e2, F.len, kapR, F.dropN, dropN_zero]
      cases nameS wd2 r2 p2 with
      | error e => simp
      | ok n => cases termsS rest <;> simp [tmR]

theorem termS_form (k : F) (wd : ByteArray) (p : Int) (e1 : wIs (headW true k) [42] = false) (e2 : wIs (headW true k) [107, 97, 112, 112, 97] = false ∨ k.len < 2) : termS k wd true p = match formS (headW true k) with
    | some (kd, many) => if (match many with | some m => k.len != m + 1 | none => false) then .error p else tmR kd ByteArray.empty (termsS (k.dropN 1))
    | none => if isFun (headW true k) && k.len == 2 then tmR 7 (headW true k) (termsS (k.dropN 1)) else .error p := by
  cases k with
  | nil => rfl
  | cons wd0 r0 p0 k0 rest =>
    have e3 : (wIs (headW true (.cons wd0 r0 p0 k0 rest)) [107, 97, 112, 112, 97] && rest.len != 0) = false := by
      rcases e2 with h | h
      · rw [h]; rfl
      · have : rest.len = 0 := by simp [F.len] at h; omega
        rw [this]; simp
    rw [headW_cons] at e1 e3 ⊢
    unfold termS
    simp only [if_true, e1, e3, F.len, F.dropN, dropN_zero]
    generalize (if r0 = true then ByteArray.empty else wd0) = s
    cases formS s with
    | none =>
      cases termsS rest <;> simp [tmR]
    | some q =>
      obtain ⟨kd, many⟩ := q
      cases many <;> cases termsS rest <;> simp [tmR]

theorem term_any : ∀ n : Nat, TermC n
  | 0 => fun B fb wd kv r p k w h => by omega
  | n + 1 => fun B fb wd kv r p k w hkn hks hB hfb hF hk hwd => by
    have ih := term_any n
    have hkn' : k.size ≤ n := by omega
    cases r with
    | false => rw [termS_false]; exact term_word wd kv p fb k w hF hk hwd
    | true =>
      have hs := head_size hk
      cases e1 : wIs (headW true k) [42] with
      | true => rw [termS_scale k wd p e1]; exact term_scale ih wd kv p fb k w hkn' hks hB hfb hF hk e1
      | false =>
        by_cases hkap : wIs (headW true k) [107, 97, 112, 112, 97] = true ∧ 2 ≤ k.len
        · obtain ⟨wd1, r1, p1, k1, hg⟩ := F.get_some (f := k) (i := 1) (by omega)
          rw [termS_kappa k wd p e1 hkap.1 hg]
          exact term_kappa ih wd kv p fb k w hkn' hks hB hfb hF hk hwd e1 hkap.1 hg
        · have e2 : wIs (headW true k) [107, 97, 112, 112, 97] = false ∨ k.len < 2 := by
            cases h : wIs (headW true k) [107, 97, 112, 112, 97] with
            | false => exact .inl rfl
            | true => exact .inr (by have : ¬ 2 ≤ k.len := fun h2 => hkap ⟨h, h2⟩; omega)
          rw [termS_form k wd p e1 e2]
          cases e4 : wIs (headW true k) [107, 97, 112, 112, 97] with
          | true =>
            have hl : k.len < 2 := by rcases e2 with h | h; · rw [e4] at h; cases h
                                      · exact h
            have hkw : (headW true k).data.toList = [107, 97, 112, 112, 97] := by simpa [wIs] using e4
            have hf : formS (headW true k) = none := by unfold formS wIs; rw [hkw]; rfl
            have hfn : isFun (headW true k) = false := by unfold isFun; rw [hkw]; decide
            rw [hf, hfn]
            exact term_none2 ih wd kv p fb k w hkn' hks hB hfb hF hk hs (formV_none hf) e1 e4 hl hfn
          | false =>
            cases hf : formS (headW true k) with
            | none =>
              cases hfn : isFun (headW true k) with
              | false => exact term_none ih wd kv p fb k w hkn' hks hB hfb hF hk hs (formV_none hf) e1 e4 hfn
              | true =>
                by_cases h2 : k.len = 2
                · simp only [h2, Bool.true_and, BEq.rfl, if_true]
                  exact term_fun_ok ih wd kv p fb k w hkn' hks hB hfb hF hk hs (formV_none hf) e1 e4 hfn h2
                · simp only [Bool.true_and, beq_iff_eq, h2, if_false]
                  exact term_fun_bad ih wd kv p fb k w hkn' hks hB hfb hF hk hs (formV_none hf) e1 e4 hfn h2
            | some q =>
              have hk1 : 1 ≤ k.len := by
                cases k with
                | nil => exact absurd hf (by intro h; cases h)
                | cons _ _ _ _ _ => simp [F.len]
              obtain ⟨kd, many⟩ := q
              cases many with
              | none =>
                exact term_form_ok ih wd kv p fb k w hkn' hks hB hfb hF hk kd (-1) (by unfold formV; rw [hf]) e1 e4 (by omega) (by omega) (.inl rfl) hk1
              | some m =>
                have hm10 : m ≤ 2 := by
                  unfold formS at hf
                  repeat (split at hf; · simp at hf; try omega)
                  cases hf
                have hv : formV (headW true k) = .tuple #[.agg #[.int .u8 kd, .int .i64 m], .bool true] := by unfold formV; rw [hf]
                by_cases h2 : k.len = m + 1
                · simp only [h2, bne_self_eq_false, Bool.false_eq_true, if_false]
                  exact term_form_ok ih wd kv p fb k w hkn' hks hB hfb hF hk kd m hv e1 e4 (by omega) (by omega) (.inr (by omega)) hk1
                · have h3 : (k.len != m + 1) = true := by simpa using h2
                  simp only [h3, if_true]
                  exact term_form_bad ih wd kv p fb k w hkn' hks hB hfb hF hk kd m hv e1 e4 (by omega) (by omega) (by omega)

end Go.Proofs.YtmcinpeplkkpfaaGreatDoor

namespace Go.Proofs.YtmcinpeplkkpfaaGreatDoor
open Go.RowKit
set_option linter.unusedVariables false
set_option linter.unusedSimpArgs false
theorem name_enters : ∀ args w, (callFunc 39 args).run Tryz.prog w = .ok (.enter 39 args) w := enters_of Tryz.func39 (by kernel_rfl) rfl

end Go.Proofs.YtmcinpeplkkpfaaGreatDoor

namespace Go.Proofs.YtmcinpeplkkpfaaGreatDoor
open Go.RowKit
set_option linter.unusedVariables false
set_option linter.unusedSimpArgs false
end Go.Proofs.YtmcinpeplkkpfaaGreatDoor

namespace Go.Proofs.YtmcinpeplkkpfaaGreatDoor
open Go.RowKit
set_option linter.unusedVariables false
set_option linter.unusedSimpArgs false
def encTy (t : Ty) : U := t.u .nil

def encPm (a : Pm) : U := .str a.1 (a.2.u .nil)

def KindC (n : Nat) : Prop := ∀ (B fb : Nat) (wd : ByteArray) (kv : Value) (r : Bool) (p : Int) (k : F) (w : World), k.size < n → k.size ≤ 262144 → B ≤ w.heap.size → B ≤ fb → Fst w fb false 0 → Sl (· < B) w kv k → wd.size ≤ maxLen →
  Calls Tryz.prog 51 #[nodeV wd kv r p fb] w (RdPost fb (shpN 9) mkAgg encTy (kindS k wd r p) w)

theorem kind_enters : ∀ args w, (callFunc 51 args).run Tryz.prog w = .ok (.enter 51 args) w := enters_of Tryz.func51 (by kernel_rfl) rfl

theorem arrN10 {cs : Array Value} (hn : cs.size = 10) (h : ∀ x ∈ cs, x.oneCell' = true) : ∃ x0 x1 x2 x3 x4 x5 x6 x7 x8 x9, cs = #[x0, x1, x2, x3, x4, x5, x6, x7, x8, x9] ∧ x0.oneCell' = true ∧ x1.oneCell' = true ∧ x2.oneCell' = true ∧ x3.oneCell' = true ∧ x4.oneCell' = true ∧ x5.oneCell' = true ∧ x6.oneCell' = true ∧ x7.oneCell' = true ∧ x8.oneCell' = true ∧ x9.oneCell' = true := by
  obtain ⟨x0, x1, x2, x3, x4, x5, x6, x7, x8, x9, e, h⟩ := len10 (xs := cs.toList) ⟨by simpa using hn, fun x hx => h x (by simpa using hx)⟩
  exact ⟨x0, x1, x2, x3, x4, x5, x6, x7, x8, x9, Array.ext' e, h⟩

def paramS (_ : ByteArray) (r : Bool) (p : Int) (k : F) : RR Pm := match k with
  | .cons wd0 r0 p0 _ (.cons wd1 r1 p1 k1 .nil) => if !r then .error p else match nameS wd0 r0 p0 with
    | .error e => .error e
    | .ok n => match kindS k1 wd1 r1 p1 with
      | .error e => .error e
      | .ok t => .ok (n, t)
  | _ => .error p

theorem param_cases (br0 bt0 br1 bt1 b1 : Nat) (wd : ByteArray) (r : Bool) (p : Int) (k : F) :
    (∃ q, partsR [slotStr br0 bt0 b1 0 encStr (fun wd r p _ => nameS wd r p), slotTy br1 bt1 b1 1 encTy (fun wd r p k => kindS k wd r p)] r p k = .error q ∧ paramS wd r p k = .error q) ∨
    (∃ n1 t1, partsR [slotStr br0 bt0 b1 0 encStr (fun wd r p _ => nameS wd r p), slotTy br1 bt1 b1 1 encTy (fun wd r p k => kindS k wd r p)] r p k = .ok [encStr n1, encTy t1] ∧ paramS wd r p k = .ok (n1, t1)) := by
  unfold partsR paramS
  match k with
  | .nil => exact .inl ⟨p, by simp [F.len], rfl⟩
  | .cons _ _ _ _ .nil => exact .inl ⟨p, by simp [F.len], rfl⟩
  | .cons _ _ _ _ (.cons _ _ _ _ (.cons _ _ _ _ k4)) => exact .inl ⟨p, by simp [F.len], rfl⟩
  | .cons wd0 r0 p0 k0 (.cons wd1 r1 p1 k1 .nil) =>
    cases r with
    | false => exact .inl ⟨p, by simp, rfl⟩
    | true =>
      rw [if_pos ⟨rfl, rfl⟩]
      cases hz : nameS wd0 r0 p0 with
      | error q => exact .inl ⟨q, by simp [slotsR, slotStr, slotTy, mapU, hz], by simp [hz]⟩
      | ok z =>
        cases ht : kindS k1 wd1 r1 p1 with
        | error q => exact .inl ⟨q, by simp [slotsR, slotStr, slotTy, mapU, hz, ht], by simp [hz, ht]⟩
        | ok t => exact .inr ⟨z, t, by simp [slotsR, slotStr, slotTy, mapU, hz, ht], by simp [hz, ht]⟩

set_option maxRecDepth 100000 in
set_option maxHeartbeats 2000000 in
theorem param_any {B : Nat} {n : Nat} (ih : KindC n) (wd : ByteArray) (kv : Value) (r : Bool) (p : Int) (fb : Nat) (k : F) (w : World) (hkn : k.size ≤ n) (hks : k.size ≤ 262144) (hB : B ≤ w.heap.size) (hfb : B ≤ fb) (hF : Fst w fb false 0) (hk : Sl (· < B) w kv k) :
    Calls Tryz.prog 99 #[nodeV wd kv r p fb] w (RdPost fb (shpN 10) mkAgg encPm (paramS wd r p k) w) := by
  obtain ⟨a, cap, rfl, h1, h2⟩ := hk.shape
  have HK := Lib.hid hk
  obtain ⟨res, hres0⟩ : ∃ res, res = paramS wd r p k := ⟨_, rfl⟩
  rw [← hres0]
  have HRES := Lib.hid hres0
  have hx1 := (Ext.refl (fun _ => False) w).alloc (.cells #[.string wd, .slice a k.len cap, .bool r, .int .i64 p, .pointer (some ⟨fb, 0, none⟩)] 57)
  have hx2 := hx1.alloc (.cells #[.string ⟨#[]⟩, .bool false, .string ⟨#[]⟩, .int .u8 0, .string ⟨#[]⟩, .bool false, .slice none 0 0, .slice none 0 0, .slice none 0 0, .slice none 0 0] 204)
  have hb2 := Blk.new (w.alloc (.cells #[.string wd, .slice a k.len cap, .bool r, .int .i64 p, .pointer (some ⟨fb, 0, none⟩)] 57)) #[.string ⟨#[]⟩, .bool false, .string ⟨#[]⟩, .int .u8 0, .string ⟨#[]⟩, .bool false, .slice none 0 0, .slice none 0 0, .slice none 0 0, .slice none 0 0] 204
  have hn2 := (NodeIn.new w wd (.slice a k.len cap) r p fb).alloc (.cells #[.string ⟨#[]⟩, .bool false, .string ⟨#[]⟩, .int .u8 0, .string ⟨#[]⟩, .bool false, .slice none 0 0, .slice none 0 0, .slice none 0 0, .slice none 0 0] 204)
  have hz : (w.alloc (.cells #[.string wd, .slice a k.len cap, .bool r, .int .i64 p, .pointer (some ⟨fb, 0, none⟩)] 57)).heap.size = w.heap.size + 1 := by simp
  have hz2 : ((w.alloc (.cells #[.string wd, .slice a k.len cap, .bool r, .int .i64 p, .pointer (some ⟨fb, 0, none⟩)] 57)).alloc (.cells #[.string ⟨#[]⟩, .bool false, .string ⟨#[]⟩, .int .u8 0, .string ⟨#[]⟩, .bool false, .slice none 0 0, .slice none 0 0, .slice none 0 0, .slice none 0 0] 204)).heap.size = w.heap.size + 2 := by simp
  rw [hz] at hb2
  have hF2 := Fst.ext hF hx2 id
  have hfl := Blk.lt hF
  have HNB : w.heap.size + 1 ≠ fb ∧ w.heap.size ≠ fb := by omega
  have HX4 := Lib.hid hx2
  have HB4 := Lib.hid hb2
  have HN4 := Lib.hid hn2
  have HF4 := Lib.hid hF2
  have HZ4 := Lib.hid hz2
  clear hz hk h1 h2 hx1 hx2 hb2 hn2 hF2 hz2 hres0
  unfold nodeV
  go_enter Tryz.func99, Tryz.ntmps99
  go_wp2_with fail
  generalize (w.alloc (.cells #[.string wd, .slice a k.len cap, .bool r, .int .i64 p, .pointer (some ⟨fb, 0, none⟩)] 57)).alloc (.cells #[.string ⟨#[]⟩, .bool false, .string ⟨#[]⟩, .int .u8 0, .string ⟨#[]⟩, .bool false, .slice none 0 0, .slice none 0 0, .slice none 0 0, .slice none 0 0] 204) = w4 at *
  obtain ⟨m0, m1, m2, m3, m4⟩ := NodeIn.cells HN4.out
  haveI ne : Nonempty (Wd (fun x => Ext (fun _ => False) w4 x)) := ⟨⟨w4, Ext.refl _ _⟩⟩
  have q0 : ∀ x : (Wd (fun x => Ext (fun _ => False) w4 x)), x.w.cell? ⟨w.heap.size, 0, none⟩ = some (.string wd) := fun x => x.ok.cellSome m0 id
  have q1 : ∀ x : (Wd (fun x => Ext (fun _ => False) w4 x)), x.w.cell? ⟨w.heap.size, 1, none⟩ = some (.slice a k.len cap) := fun x => x.ok.cellSome m1 id
  have q2 : ∀ x : (Wd (fun x => Ext (fun _ => False) w4 x)), x.w.cell? ⟨w.heap.size, 2, none⟩ = some (.bool r) := fun x => x.ok.cellSome m2 id
  have q3 : ∀ x : (Wd (fun x => Ext (fun _ => False) w4 x)), x.w.cell? ⟨w.heap.size, 3, none⟩ = some (.int .i64 p) := fun x => x.ok.cellSome m3 id
  have q4 : ∀ x : (Wd (fun x => Ext (fun _ => False) w4 x)), x.w.cell? ⟨w.heap.size, 4, none⟩ = some (.pointer (some ⟨fb, 0, none⟩)) := fun x => x.ok.cellSome m4 id
  clear m0 m1 m2 m3 m4
  refine wp_region_steps (S := fun x => Ext (fun _ => False) w4 x) [([0, 1, 3], [2]), ([], [4]), ([], [5])] _ (by kernel_rfl) (by kernel_rfl) rfl (by kernel_rfl) (fun _ d _ _ _ h => by cases d <;> exact h) (Ext.refl _ _).drew ?_
  simp only [segOps, List.filterMap_cons, List.filterMap_nil, List.getElem?_cons_zero, List.getElem?_cons_succ]
  refine wpSegs_cons ?_
  change wpQuiet _ _ _ _ (_ :: _ :: _ ::  []) _
  repeat (go_big_quiet_step (fail))
  refine wpQuiet_nil ?_
  refine wpLoud_step rfl (fun K hK => ?_)
  go_simp
  refine (intoStr_mk _ _ _ ⟨_, rfl⟩ ⟨_, rfl⟩).mono ?_
  rintro e v0 ⟨br0, bt0, rfl, hx, ⟨tr0, hr⟩, ⟨tt0, ht⟩, hg, hh⟩
  have hx : Ext (fun _ => False) w4 v0 := ⟨hx.os, hx.tape, hx.output, hx.size, hx.block⟩
  have hg0 : w4.heap.size ≤ br0 := hg
  have hh0 : w4.heap.size ≤ bt0 := hh
  have y0 := hx.size
  have HV0 : Hid (Ext (fun _ => False) w4 v0) := Lib.hid (hx)
  have HR0 := Lib.hid hr
  have HT0 := Lib.hid ht
  refine hK _ _ HV0.out ?_
  clear hK hx hr ht hg hh
  refine wpLoud_nil ?_
  refine wpSegs_cons ?_
  refine wpQuiet_nil ?_
  refine wpLoud_step rfl (fun K hK => ?_)
  go_simp
  refine (intoTy_mk _ _ _ ⟨_, rfl⟩ ⟨_, rfl⟩).mono ?_
  rintro e v1 ⟨br1, bt1, rfl, hx, ⟨tr1, hr⟩, ⟨tt1, ht⟩, hg, hh⟩
  have hx : Ext (fun _ => False) v0 v1 := ⟨hx.os, hx.tape, hx.output, hx.size, hx.block⟩
  have hg1 : v0.heap.size ≤ br1 := hg
  have hh1 : v0.heap.size ≤ bt1 := hh
  have y1 := hx.size
  have HV1 : Hid (Ext (fun _ => False) w4 v1) := Lib.hid (HV0.out.trans' hx)
  have HR0 := Lib.hid (HR0.out.ext hx id)
  have HT0 := Lib.hid (HT0.out.ext hx id)
  have HR1 := Lib.hid hr
  have HT1 := Lib.hid ht
  refine hK _ _ HV1.out ?_
  clear hK hx hr ht hg hh
  refine wpLoud_nil ?_
  refine wpSegs_cons ?_
  refine wpQuiet_nil ?_
  refine wpLoud_step rfl (fun K hK => ?_)
  go_simp
  refine hK _ _ (HV1.out.alloc _) ?_
  clear hK
  refine wpLoud_nil ?_
  refine wpSegs_nil ?_
  clear q0 q1 q2 q3 q4 ne
  have hx47 := HV1.out.alloc (.cells #[.func (.func 92) #[] #[.pointer (some ⟨br0, 0, none⟩), .pointer (some ⟨bt0, 0, none⟩)], .func (.func 100) #[] #[.pointer (some ⟨br1, 0, none⟩), .pointer (some ⟨bt1, 0, none⟩)]] 103)
  have hRB := Blk.new v1 #[.func (.func 92) #[] #[.pointer (some ⟨br0, 0, none⟩), .pointer (some ⟨bt0, 0, none⟩)], .func (.func 100) #[] #[.pointer (some ⟨br1, 0, none⟩), .pointer (some ⟨bt1, 0, none⟩)]] 103
  have hz7 : (v1.alloc (.cells #[.func (.func 92) #[] #[.pointer (some ⟨br0, 0, none⟩), .pointer (some ⟨bt0, 0, none⟩)], .func (.func 100) #[] #[.pointer (some ⟨br1, 0, none⟩), .pointer (some ⟨bt1, 0, none⟩)]] 103)).heap.size = v1.heap.size + 1 := by simp
  have hr0 := HR0.out.alloc (.cells #[.func (.func 92) #[] #[.pointer (some ⟨br0, 0, none⟩), .pointer (some ⟨bt0, 0, none⟩)], .func (.func 100) #[] #[.pointer (some ⟨br1, 0, none⟩), .pointer (some ⟨bt1, 0, none⟩)]] 103)
  have ht0 := HT0.out.alloc (.cells #[.func (.func 92) #[] #[.pointer (some ⟨br0, 0, none⟩), .pointer (some ⟨bt0, 0, none⟩)], .func (.func 100) #[] #[.pointer (some ⟨br1, 0, none⟩), .pointer (some ⟨bt1, 0, none⟩)]] 103)
  have hr1 := HR1.out.alloc (.cells #[.func (.func 92) #[] #[.pointer (some ⟨br0, 0, none⟩), .pointer (some ⟨bt0, 0, none⟩)], .func (.func 100) #[] #[.pointer (some ⟨br1, 0, none⟩), .pointer (some ⟨bt1, 0, none⟩)]] 103)
  have ht1 := HT1.out.alloc (.cells #[.func (.func 92) #[] #[.pointer (some ⟨br0, 0, none⟩), .pointer (some ⟨bt0, 0, none⟩)], .func (.func 100) #[] #[.pointer (some ⟨br1, 0, none⟩), .pointer (some ⟨bt1, 0, none⟩)]] 103)
  generalize v1.alloc (.cells #[.func (.func 92) #[] #[.pointer (some ⟨br0, 0, none⟩), .pointer (some ⟨bt0, 0, none⟩)], .func (.func 100) #[] #[.pointer (some ⟨br1, 0, none⟩), .pointer (some ⟨bt1, 0, none⟩)]] 103) = w7 at *
  have hX7 := HX4.out.trans' hx47
  have hF7 := Fst.ext HF4.out hx47 id
  have hb7 := HB4.out.ext hx47 id
  have hz4 := HZ4.out
  have a0 := hr0.lt
  have b0 := ht0.lt
  have a1 := hr1.lt
  have b1 := ht1.lt
  have PARTS := parts_any (B := B) [w.heap.size + 1] (fun _ => 204) (fun _ => #[.string ⟨#[]⟩, .bool false, .string ⟨#[]⟩, .int .u8 0, .string ⟨#[]⟩, .bool false, .slice none 0 0, .slice none 0 0, .slice none 0 0, .slice none 0 0]) [slotStr br0 bt0 (w.heap.size + 1) 0 encStr (fun wd r p _ => nameS wd r p), slotTy br1 bt1 (w.heap.size + 1) 1 encTy (fun wd r p k => kindS k wd r p)] wd (.slice a k.len cap) r p fb k v1.heap.size 103 w7 (HK.out.ext hX7 (fun _ _ h => h)) hF7 hRB (by simp) hfb
    (fun b hb => by
      simp only [List.mem_cons, List.not_mem_nil, or_false] at hb
      subst hb; omega)
    (by omega)
    (fun b hb => by
      simp only [List.mem_cons, List.not_mem_nil, or_false] at hb
      subst hb; exact ⟨hb7, rfl, by simp [Value.oneCell']⟩)
    (fun s hs => by
      simp only [List.mem_cons, List.not_mem_nil, or_false] at hs
      rcases hs with rfl | rfl <;> simp [slotStr, slotTy])
    (fun s hs xs hx => by
      simp only [List.mem_cons, List.not_mem_nil, or_false] at hs
      rcases hs with rfl | rfl
      · exact shpStr_one hx
      · exact shpN_one (n := 9) hx)
    (fun s hs => by
      simp only [List.mem_cons, List.not_mem_nil, or_false] at hs
      rcases hs with rfl | rfl
      · exact intoStr_enters
      · exact intoTy_enters)
    (fun i h wd1 r1 p1 k1 hg => by
      have h : i < 2 := h
      match i, h with
      | 0, _ => exact doesStr br0 bt0 (w.heap.size + 1) 0 encStr (fun wd r p _ => nameS wd r p) wd1 r1 p1 k1 hr0 ht0 ⟨by omega, by simp; omega⟩ ⟨by omega, by simp; omega⟩ (by simp) HNB.1 (by omega) (by omega) name_enters (fun kv1 w1 hB hF hsl hwd => nodeName_any wd1 kv1 r1 p1 fb k1 w1 hF hsl hwd)
      | 1, _ => exact doesTy br1 bt1 (w.heap.size + 1) 1 encTy (fun wd r p k => kindS k wd r p) wd1 r1 p1 k1 hr1 ht1 ⟨by omega, by simp; omega⟩ ⟨by omega, by simp; omega⟩ (by simp) HNB.1 (by omega) (by omega) kind_enters (fun kv1 w1 hB hF hsl hwd => ih B fb wd1 kv1 r1 p1 k1 w1 (by have := F.get_size hg; omega) (by have := F.get_size hg; omega) hB hfb hF hsl hwd))
  have HPARTS := Lib.hid PARTS
  have HX7 := Lib.hid hX7
  have HZ7 : Hid (w.heap.size + 2 ≤ w7.heap.size) := Lib.hid (by omega)
  clear PARTS hX7 hF7 hb7 hx47 hRB
  unfold nodeV at HPARTS
  go_wp2_with fail
  refine HPARTS.out.mono ?_
  rintro e w8 ⟨rfl, hx8, S', hT8, hres⟩
  obtain ⟨hb8, hsz8, hone8⟩ := hT8 (w.heap.size + 1) (by simp)
  obtain ⟨x0, x1, x2, x3, x4, x5, x6, x7, x8, x9, hS, o0, o1, o2, o3, o4, o5, o6, o7, o8, o9⟩ := arrN10 hsz8 hone8
  rw [hS] at hb8
  have HS := Lib.hid hS
  have HX8 : Hid (Ext (· = fb) w w8) := Lib.hid ((HX7.out.mono (M' := (· = fb)) (fun _ _ h => h.elim)).trans hx8 (fun b hb h => h.elim id (fun h => by
    simp only [List.mem_cons, List.not_mem_nil, or_false] at h
    omega)))
  have HR8 := Lib.hid hres
  have hz8 := hx8.size
  have l9 : w.heap.size + 1 < w8.heap.size := by have := HZ7.out; omega
  clear hS hx8 hres hT8 hsz8 hone8 hz8
  have c0 := hb8.cell 0
  have f0 := hb8.frozen 0
  have c1 := hb8.cell 1
  have f1 := hb8.frozen 1
  have c2 := hb8.cell 2
  have f2 := hb8.frozen 2
  have c3 := hb8.cell 3
  have f3 := hb8.frozen 3
  have c4 := hb8.cell 4
  have f4 := hb8.frozen 4
  have c5 := hb8.cell 5
  have f5 := hb8.frozen 5
  have c6 := hb8.cell 6
  have f6 := hb8.frozen 6
  have c7 := hb8.cell 7
  have f7 := hb8.frozen 7
  have c8 := hb8.cell 8
  have f8 := hb8.frozen 8
  have c9 := hb8.cell 9
  have f9 := hb8.frozen 9
  simp only [List.getElem?_toArray, List.getElem?_cons_zero, List.getElem?_cons_succ] at c0 c1 c2 c3 c4 c5 c6 c7 c8 c9
  have st0 := store_ok (P := Tryz.prog) (hb8) 0 x0 (by simp) o0
  have st1 := store_ok (P := Tryz.prog) ((hb8.set 0 x0)) 1 x1 (by simp) o1
  have st2 := store_ok (P := Tryz.prog) (((hb8.set 0 x0).set 1 x1)) 2 x2 (by simp) o2
  have st3 := store_ok (P := Tryz.prog) ((((hb8.set 0 x0).set 1 x1).set 2 x2)) 3 x3 (by simp) o3
  have st4 := store_ok (P := Tryz.prog) (((((hb8.set 0 x0).set 1 x1).set 2 x2).set 3 x3)) 4 x4 (by simp) o4
  have st5 := store_ok (P := Tryz.prog) ((((((hb8.set 0 x0).set 1 x1).set 2 x2).set 3 x3).set 4 x4)) 5 x5 (by simp) o5
  have st6 := store_ok (P := Tryz.prog) (((((((hb8.set 0 x0).set 1 x1).set 2 x2).set 3 x3).set 4 x4).set 5 x5)) 6 x6 (by simp) o6
  have st7 := store_ok (P := Tryz.prog) ((((((((hb8.set 0 x0).set 1 x1).set 2 x2).set 3 x3).set 4 x4).set 5 x5).set 6 x6)) 7 x7 (by simp) o7
  have st8 := store_ok (P := Tryz.prog) (((((((((hb8.set 0 x0).set 1 x1).set 2 x2).set 3 x3).set 4 x4).set 5 x5).set 6 x6).set 7 x7)) 8 x8 (by simp) o8
  have st9 := store_ok (P := Tryz.prog) ((((((((((hb8.set 0 x0).set 1 x1).set 2 x2).set 3 x3).set 4 x4).set 5 x5).set 6 x6).set 7 x7).set 8 x8)) 9 x9 (by simp) o9
  clear hb8
  go_wp2_with fail
  refine bodyPost_ret (v := .agg #[x0, x1, x2, x3, x4, x5, x6, x7, x8, x9]) (by simp [results, Tryz.results99, go_sem, *]) rfl ⟨?_, [x0, x1, x2, x3, x4, x5, x6, x7, x8, x9], rfl, ⟨rfl, by simp [o0, o1, o2, o3, o4, o5, o6, o7, o8, o9]⟩, ?_⟩
  · exact sets_ext (b := w.heap.size + 1) (fun h => by have : w.heap.size + 1 < w.heap.size := h; omega) [x0, x1, x2, x3, x4, x5, x6, x7, x8, x9] 0 _ HX8.out
  · rw [HRES.out]
    have h := HR8.out
    have hz7 := HZ7.out
    rcases param_cases br0 bt0 br1 bt1 (w.heap.size + 1) wd r p k with ⟨q, h1, h2⟩ | ⟨n1, t1, h1, h2⟩
    · rw [h1] at h
      rw [h2]
      exact sets_blk (b := w.heap.size + 1) HNB.1 [x0, x1, x2, x3, x4, x5, x6, x7, x8, x9] 0 _ h
    · rw [h1] at h
      rw [h2]
      obtain ⟨hf8, xss, hp, hsr⟩ := h
      have hS := HS.out
      rw [hp] at hS
      match xss, hsr, hp with
      | [y0, y1], ⟨s0, g0, s1, g1, _⟩, hp =>
        obtain ⟨u0, rfl⟩ := s0
        obtain ⟨z0, z1, z2, z3, z4, z5, z6, z7, z8, rfl, _⟩ := len9 s1
        simp [puts, put, slotStr, slotTy, putL] at hS
        obtain ⟨rfl, rfl, rfl, rfl, rfl, rfl, rfl, rfl, rfl, rfl⟩ := hS
        obtain ⟨_, e0, m0, _⟩ := g0
        simp only [List.cons.injEq, Value.string.injEq] at e0
        obtain ⟨rfl, _⟩ := e0
        exact ⟨sets_blk (b := w.heap.size + 1) HNB.1 [.string u0, z0, z1, z2, z3, z4, z5, z6, z7, z8] 0 _ hf8, (sets_rep (b := w.heap.size + 1) (D := fun b => w.heap.size + 2 ≤ b) (by omega) [.string u0, z0, z1, z2, z3, z4, z5, z6, z7, z8] 0 _ (show Rep (fun b => w.heap.size + 2 ≤ b) w8 (encPm (u0, t1)) [.string u0, z0, z1, z2, z3, z4, z5, z6, z7, z8] from ⟨_, rfl, m0, g1.mono (fun b hb _ => by have : w7.heap.size ≤ b := hb; omega)⟩)).mono (fun b hb _ => by have : w.heap.size + 2 ≤ b := hb; omega)⟩

end Go.Proofs.YtmcinpeplkkpfaaGreatDoor
