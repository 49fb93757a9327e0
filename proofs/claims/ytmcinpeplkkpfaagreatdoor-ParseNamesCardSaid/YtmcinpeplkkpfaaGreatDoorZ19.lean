/- Texts put together by wip/shake.py: PKind, PBack, PBodyN: the walks and the laws that the claim's last theorem rests on. -/
import Derived.Test.YtmcinpeplkkpfaaGreatDoorZ18
import Derived.RangeFuncNested
import Derived.RangeFuncBound
import Derived.RangeFuncCalls
import Derived.RangeFuncLeaves
import Derived.OwnWalkIn
import Derived.LoopNIn
import Derived.LoopIn
namespace Go.Proofs.YtmcinpeplkkpfaaGreatDoor
open Go.RowKit
set_option linter.unusedVariables false
set_option linter.unusedSimpArgs false
theorem params_enters : ∀ args w, (callFunc 49 args).run Tryz.prog w = .ok (.enter 49 args) w := enters_of Tryz.func49 (by kernel_rfl) rfl

set_option maxRecDepth 100000 in
set_option maxHeartbeats 3000000 in
theorem kind_fun {n B : Nat} (ih : KindC n) (wd : ByteArray) (kv : Value) (p : Int) (fb : Nat) (k : F) (w : World) (hkn : k.size ≤ n) (hks : k.size ≤ 262144) (hB : B ≤ w.heap.size) (hfb : B ≤ fb) (hF : Fst w fb false 0) (hk : Sl (· < B) w kv k) (e1 : wIs (headW true k) [45, 62] = true) :
    Calls Tryz.prog 51 #[nodeV wd kv true p fb] w (RdPost fb (shpN 9) mkAgg encTy (kindB p k) w) := by
  have hkl := F.len_le_size k
  have HHD := Lib.hid (fun w' (hx : Ext (fun _ => False) w w') => head_any wd kv true p fb k w' (hk.ext hx (fun _ _ h => h)))
  obtain ⟨a, cap, rfl, h1, h2⟩ := hk.shape
  have HK := Lib.hid hk
  obtain ⟨res, hres0⟩ : ∃ res, res = kindB p k := ⟨_, rfl⟩
  rw [← hres0]
  have HRES := Lib.hid hres0
  clear hres0
  generalize headW true k = s at *
  rw [wIs_iff] at e1
  have e1' : s.toList = [45, 62] := by simpa using e1
  have hx1 := (Ext.refl (fun _ => False) w).alloc (.cells #[.string wd, .slice a k.len cap, .bool true, .int .i64 p, .pointer (some ⟨fb, 0, none⟩)] 57)
  have hx2 := hx1.alloc (.cells #[.bool false, .string ⟨#[]⟩, .int .u8 0, .string ⟨#[]⟩, .bool false, .slice none 0 0, .slice none 0 0, .slice none 0 0, .slice none 0 0] 117)
  have hb2 := Blk.new (w.alloc (.cells #[.string wd, .slice a k.len cap, .bool true, .int .i64 p, .pointer (some ⟨fb, 0, none⟩)] 57)) #[.bool false, .string ⟨#[]⟩, .int .u8 0, .string ⟨#[]⟩, .bool false, .slice none 0 0, .slice none 0 0, .slice none 0 0, .slice none 0 0] 117
  have hn2 := (NodeIn.new w wd (.slice a k.len cap) true p fb).alloc (.cells #[.bool false, .string ⟨#[]⟩, .int .u8 0, .string ⟨#[]⟩, .bool false, .slice none 0 0, .slice none 0 0, .slice none 0 0, .slice none 0 0] 117)
  have hz : (w.alloc (.cells #[.string wd, .slice a k.len cap, .bool true, .int .i64 p, .pointer (some ⟨fb, 0, none⟩)] 57)).heap.size = w.heap.size + 1 := by simp
  have hz2 : ((w.alloc (.cells #[.string wd, .slice a k.len cap, .bool true, .int .i64 p, .pointer (some ⟨fb, 0, none⟩)] 57)).alloc (.cells #[.bool false, .string ⟨#[]⟩, .int .u8 0, .string ⟨#[]⟩, .bool false, .slice none 0 0, .slice none 0 0, .slice none 0 0, .slice none 0 0] 117)).heap.size = w.heap.size + 2 := by simp
  rw [hz] at hb2
  have hF2 := Fst.ext hF hx2 id
  have hfl := Blk.lt hF
  have HNB : w.heap.size + 1 ≠ fb ∧ w.heap.size ≠ fb := by omega
  have HZ2 := Lib.hid hz2
  clear hz hz2 hk h1 h2 hx1
  unfold nodeV at *
  go_enter Tryz.func51, Tryz.ntmps51
  go_wp2_with fail
  refine (HHD.out _ hx2).mono ?_
  rintro e w3 ⟨rfl, hx3⟩
  have hb3 := hb2.ext hx3 id
  have hn3 := NodeIn.ext hn2 hx3 id
  have HF3 := Lib.hid (Fst.ext hF2 hx3 id)
  have HX3 := Lib.hid (hx2.trans' hx3)
  have hs3 := hx3.size
  rw [HZ2.out] at hs3
  have l0 : w.heap.size < w3.heap.size := by omega
  have l1 : w.heap.size + 1 < w3.heap.size := by omega
  have c0 := hb3.cell 0
  have f0 := hb3.frozen 0
  have c1 := hb3.cell 1
  have f1 := hb3.frozen 1
  have c2 := hb3.cell 2
  have f2 := hb3.frozen 2
  have c3 := hb3.cell 3
  have f3 := hb3.frozen 3
  have c4 := hb3.cell 4
  have f4 := hb3.frozen 4
  have c5 := hb3.cell 5
  have f5 := hb3.frozen 5
  have c6 := hb3.cell 6
  have f6 := hb3.frozen 6
  have c7 := hb3.cell 7
  have f7 := hb3.frozen 7
  have c8 := hb3.cell 8
  have f8 := hb3.frozen 8
  simp only [List.getElem?_toArray, List.getElem?_cons_zero, List.getElem?_cons_succ] at c0 c1 c2 c3 c4 c5 c6 c7 c8
  obtain ⟨n0, n1, n2, n3', n4⟩ := hn3.cells
  clear hx2 hb2 hn2 hF2 hx3
  clear c0 f0 c1 f1 c2 f2 c3 f3 c4 f4 c5 f5 c6 f6 c7 f7 c8 f8 n0 n1 n2 n3' n4
  have hb4 := Blk.alloc hb3 (.cells #[.bool false, .string ⟨#[]⟩, .int .u8 0, .string ⟨#[]⟩, .bool false, .slice none 0 0, .slice none 0 0, .slice none 0 0, .slice none 0 0] 117)
  have hn4 := Blk.alloc hn3 (.cells #[.bool false, .string ⟨#[]⟩, .int .u8 0, .string ⟨#[]⟩, .bool false, .slice none 0 0, .slice none 0 0, .slice none 0 0, .slice none 0 0] 117)
  have hF4 := Blk.alloc HF3.out (.cells #[.bool false, .string ⟨#[]⟩, .int .u8 0, .string ⟨#[]⟩, .bool false, .slice none 0 0, .slice none 0 0, .slice none 0 0, .slice none 0 0] 117)
  have hX4 := HX3.out.alloc (.cells #[.bool false, .string ⟨#[]⟩, .int .u8 0, .string ⟨#[]⟩, .bool false, .slice none 0 0, .slice none 0 0, .slice none 0 0, .slice none 0 0] 117)
  have hk4 := Blk.new w3 #[.bool false, .string ⟨#[]⟩, .int .u8 0, .string ⟨#[]⟩, .bool false, .slice none 0 0, .slice none 0 0, .slice none 0 0, .slice none 0 0] 117
  have HB0 := Lib.hid hb4
  have HB1 := Lib.hid hk4
  have HN4 : Hid (NodeIn (w3.alloc (.cells #[.bool false, .string ⟨#[]⟩, .int .u8 0, .string ⟨#[]⟩, .bool false, .slice none 0 0, .slice none 0 0, .slice none 0 0, .slice none 0 0] 117)) w.heap.size wd (.slice a k.len cap) true p fb) := Lib.hid hn4
  have HF4 : Hid (Fst (w3.alloc (.cells #[.bool false, .string ⟨#[]⟩, .int .u8 0, .string ⟨#[]⟩, .bool false, .slice none 0 0, .slice none 0 0, .slice none 0 0, .slice none 0 0] 117)) fb false 0) := Lib.hid hF4
  have HX4 := Lib.hid hX4
  clear HF3 HX3 hb3 hn3 HZ2 HHD hb4 hn4 hF4 hX4 hk4
  go_wp2_with fail
  generalize w3.alloc (.cells #[.bool false, .string ⟨#[]⟩, .int .u8 0, .string ⟨#[]⟩, .bool false, .slice none 0 0, .slice none 0 0, .slice none 0 0, .slice none 0 0] 117) = w4 at *
  clear l0 l1
  have hkb : w.heap.size + 2 ≤ w3.heap.size := hs3
  clear hs3
  generalize w3.heap.size = kb at *
  have DNE : ¬ kb = w.heap.size + 1 := by omega
  have DNE2 : ¬ w.heap.size + 1 = kb := by omega
  obtain ⟨m0, m1, m2, m3, m4⟩ := NodeIn.cells HN4.out
  haveI ne : Nonempty (Wd (fun x => Ext (fun _ => False) w4 x)) := ⟨⟨w4, Ext.refl _ _⟩⟩
  have q0 : ∀ x : (Wd (fun x => Ext (fun _ => False) w4 x)), x.w.cell? ⟨w.heap.size, 0, none⟩ = some (.string wd) := fun x => x.ok.cellSome m0 id
  have q1 : ∀ x : (Wd (fun x => Ext (fun _ => False) w4 x)), x.w.cell? ⟨w.heap.size, 1, none⟩ = some (.slice a k.len cap) := fun x => x.ok.cellSome m1 id
  have q2 : ∀ x : (Wd (fun x => Ext (fun _ => False) w4 x)), x.w.cell? ⟨w.heap.size, 2, none⟩ = some (.bool true) := fun x => x.ok.cellSome m2 id
  have q3 : ∀ x : (Wd (fun x => Ext (fun _ => False) w4 x)), x.w.cell? ⟨w.heap.size, 3, none⟩ = some (.int .i64 p) := fun x => x.ok.cellSome m3 id
  have q4 : ∀ x : (Wd (fun x => Ext (fun _ => False) w4 x)), x.w.cell? ⟨w.heap.size, 4, none⟩ = some (.pointer (some ⟨fb, 0, none⟩)) := fun x => x.ok.cellSome m4 id
  clear m0 m1 m2 m3 m4
  refine wp_region_steps (S := fun x => Ext (fun _ => False) w4 x) [([0, 1], [2]), ([], [3]), ([], [4])] _ (by kernel_rfl) (by kernel_rfl) rfl (by kernel_rfl) (fun _ d _ _ _ h => by cases d <;> exact h) (Ext.refl _ _).drew ?_
  simp only [segOps, List.filterMap_cons, List.filterMap_nil, List.getElem?_cons_zero, List.getElem?_cons_succ]
  refine wpSegs_cons ?_
  change wpQuiet _ _ _ _ (_ :: _ ::  []) _
  repeat (go_big_quiet_step (fail))
  refine wpQuiet_nil ?_
  refine wpLoud_step rfl (fun K hK => ?_)
  go_simp
  refine (intoPms_mk _ _ _ ⟨_, rfl⟩ ⟨_, rfl⟩).mono ?_
  rintro e v1 ⟨br1, bt1, rfl, hx, ⟨tr1, hr⟩, ⟨tt1, ht⟩, hg, hh⟩
  have hx : Ext (fun _ => False) w4 v1 := ⟨hx.os, hx.tape, hx.output, hx.size, hx.block⟩
  have hg1 : w4.heap.size ≤ br1 := hg
  have hh1 : w4.heap.size ≤ bt1 := hh
  have y1 := hx.size
  have HV1 : Hid (Ext (fun _ => False) w4 v1) := Lib.hid (hx)
  have HR1 := Lib.hid hr
  have HT1 := Lib.hid ht
  refine hK _ _ HV1.out ?_
  clear hK hx hr ht hg hh
  refine wpLoud_nil ?_
  refine wpSegs_cons ?_
  refine wpQuiet_nil ?_
  refine wpLoud_step rfl (fun K hK => ?_)
  go_simp
  refine (intoTy_mk _ _ _ ⟨_, rfl⟩ ⟨_, rfl⟩).mono ?_
  rintro e v2 ⟨br2, bt2, rfl, hx, ⟨tr2, hr⟩, ⟨tt2, ht⟩, hg, hh⟩
  have hx : Ext (fun _ => False) v1 v2 := ⟨hx.os, hx.tape, hx.output, hx.size, hx.block⟩
  have hg2 : v1.heap.size ≤ br2 := hg
  have hh2 : v1.heap.size ≤ bt2 := hh
  have y2 := hx.size
  have HV2 : Hid (Ext (fun _ => False) w4 v2) := Lib.hid (HV1.out.trans' hx)
  have HR1 := Lib.hid (HR1.out.ext hx id)
  have HT1 := Lib.hid (HT1.out.ext hx id)
  have HR2 := Lib.hid hr
  have HT2 := Lib.hid ht
  refine hK _ _ HV2.out ?_
  clear hK hx hr ht hg hh
  refine wpLoud_nil ?_
  refine wpSegs_cons ?_
  refine wpQuiet_nil ?_
  refine wpLoud_step rfl (fun K hK => ?_)
  go_simp
  refine hK _ _ (HV2.out.alloc _) ?_
  clear hK
  refine wpLoud_nil ?_
  refine wpSegs_nil ?_
  clear q0 q1 q2 q3 q4 ne
  have hx47 := HV2.out.alloc (.cells #[.func (.func 43) #[] #[], .func (.func 97) #[] #[.pointer (some ⟨br1, 0, none⟩), .pointer (some ⟨bt1, 0, none⟩)], .func (.func 100) #[] #[.pointer (some ⟨br2, 0, none⟩), .pointer (some ⟨bt2, 0, none⟩)]] 103)
  have hRB := Blk.new v2 #[.func (.func 43) #[] #[], .func (.func 97) #[] #[.pointer (some ⟨br1, 0, none⟩), .pointer (some ⟨bt1, 0, none⟩)], .func (.func 100) #[] #[.pointer (some ⟨br2, 0, none⟩), .pointer (some ⟨bt2, 0, none⟩)]] 103
  have hz7 : (v2.alloc (.cells #[.func (.func 43) #[] #[], .func (.func 97) #[] #[.pointer (some ⟨br1, 0, none⟩), .pointer (some ⟨bt1, 0, none⟩)], .func (.func 100) #[] #[.pointer (some ⟨br2, 0, none⟩), .pointer (some ⟨bt2, 0, none⟩)]] 103)).heap.size = v2.heap.size + 1 := by simp
  have hr1 := HR1.out.alloc (.cells #[.func (.func 43) #[] #[], .func (.func 97) #[] #[.pointer (some ⟨br1, 0, none⟩), .pointer (some ⟨bt1, 0, none⟩)], .func (.func 100) #[] #[.pointer (some ⟨br2, 0, none⟩), .pointer (some ⟨bt2, 0, none⟩)]] 103)
  have ht1 := HT1.out.alloc (.cells #[.func (.func 43) #[] #[], .func (.func 97) #[] #[.pointer (some ⟨br1, 0, none⟩), .pointer (some ⟨bt1, 0, none⟩)], .func (.func 100) #[] #[.pointer (some ⟨br2, 0, none⟩), .pointer (some ⟨bt2, 0, none⟩)]] 103)
  have hr2 := HR2.out.alloc (.cells #[.func (.func 43) #[] #[], .func (.func 97) #[] #[.pointer (some ⟨br1, 0, none⟩), .pointer (some ⟨bt1, 0, none⟩)], .func (.func 100) #[] #[.pointer (some ⟨br2, 0, none⟩), .pointer (some ⟨bt2, 0, none⟩)]] 103)
  have ht2 := HT2.out.alloc (.cells #[.func (.func 43) #[] #[], .func (.func 97) #[] #[.pointer (some ⟨br1, 0, none⟩), .pointer (some ⟨bt1, 0, none⟩)], .func (.func 100) #[] #[.pointer (some ⟨br2, 0, none⟩), .pointer (some ⟨bt2, 0, none⟩)]] 103)
  generalize v2.alloc (.cells #[.func (.func 43) #[] #[], .func (.func 97) #[] #[.pointer (some ⟨br1, 0, none⟩), .pointer (some ⟨bt1, 0, none⟩)], .func (.func 100) #[] #[.pointer (some ⟨br2, 0, none⟩), .pointer (some ⟨bt2, 0, none⟩)]] 103) = w7 at *
  have hX7 := HX4.out.trans' hx47
  have hF7 := Fst.ext HF4.out hx47 id
  have hb70 := HB0.out.ext hx47 id
  have lb0 := HB0.out.lt
  have hb71 := HB1.out.ext hx47 id
  have lb1 := HB1.out.lt
  have a1 := hr1.lt
  have b1 := ht1.lt
  have a2 := hr2.lt
  have b2 := ht2.lt
  have PARTS := parts_any (B := B) [(w.heap.size + 1), kb] (fun b => if b = (w.heap.size + 1) then 117 else 117) (fun b => if b = (w.heap.size + 1) then #[.bool false, .string ⟨#[]⟩, .int .u8 0, .string ⟨#[]⟩, .bool false, .slice none 0 0, .slice none 0 0, .slice none 0 0, .slice none 0 0] else #[.bool false, .string ⟨#[]⟩, .int .u8 0, .string ⟨#[]⟩, .bool false, .slice none 0 0, .slice none 0 0, .slice none 0 0, .slice none 0 0]) [slotSkip (w.heap.size + 1), slotPms br1 bt1 (w.heap.size + 1) 7 encPms (fun wd r p k => rowOf r p (paramsS k)), slotTy br2 bt2 kb 0 encTy (fun wd r p k => kindS k wd r p)] wd (.slice a k.len cap) true p fb k v2.heap.size 103 w7 (HK.out.ext hX7 (fun _ _ h => h)) hF7 hRB (by simp) hfb
    (fun b hb => by
      simp only [List.mem_cons, List.not_mem_nil, or_false] at hb
      rcases hb with rfl | rfl <;> omega)
    (by omega)
    (fun b hb => by
      simp only [List.mem_cons, List.not_mem_nil, or_false] at hb
      rcases hb with rfl | rfl
      · simp only [DNE, if_true, if_false]; exact ⟨hb70, by simp, by simp [Value.oneCell']⟩
      · simp only [DNE, if_true, if_false]; exact ⟨hb71, by simp, by simp [Value.oneCell']⟩)
    (fun s hs => by
      simp only [List.mem_cons, List.not_mem_nil, or_false] at hs
      rcases hs with rfl | rfl | rfl <;> simp [slotPms, slotSkip, slotTy])
    (fun s hs xs hx => by
      simp only [List.mem_cons, List.not_mem_nil, or_false] at hs
      rcases hs with rfl | rfl | rfl
      · have hx : xs = [] := hx
        subst hx; simp
      · exact shpSl_one hx
      · exact shpN_one (n := 9) hx)
    (fun s hs => by
      simp only [List.mem_cons, List.not_mem_nil, or_false] at hs
      rcases hs with rfl | rfl | rfl
      · exact skip_enters
      · exact intoPms_enters
      · exact intoTy_enters)
    (fun i h wd1 r1 p1 k1 hg => by
      have h : i < 3 := h
      match i, h with
      | 0, _ => exact does_skip _ _ _ _ _
      | 1, _ => exact doesPms br1 bt1 (w.heap.size + 1) 7 encPms (fun wd r p k => rowOf r p (paramsS k)) wd1 r1 p1 k1 hr1 ht1 ⟨by omega, by simp; omega⟩ ⟨by omega, by simp; omega⟩ (by simp [DNE]) (by omega) (by omega) (by omega) params_enters (fun kv1 w1 hB hF hsl hwd => by have h := params_any ih wd1 kv1 r1 p1 fb k1 w1 (by have := F.get_size hg; omega) (by have := F.get_size hg; omega) hB hfb hF hsl; rw [← params_each] at h; exact h)
      | 2, _ => exact doesTy br2 bt2 kb 0 encTy (fun wd r p k => kindS k wd r p) wd1 r1 p1 k1 hr2 ht2 ⟨by omega, by simp; omega⟩ ⟨by omega, by simp; omega⟩ (by simp [DNE]) (by omega) (by omega) (by omega) kind_enters (fun kv1 w1 hB hF hsl hwd => ih B fb wd1 kv1 r1 p1 k1 w1 (by have := F.get_size hg; omega) (by have := F.get_size hg; omega) hB hfb hF hsl hwd))
  have HPARTS := Lib.hid PARTS
  have HX7 := Lib.hid hX7
  have HZ7 : Hid ((w.heap.size + 1) < w7.heap.size ∧ kb < w7.heap.size) := Lib.hid (by omega)
  have y7 : w.heap.size ≤ w7.heap.size := hX7.size
  clear PARTS hX7 hF7 hb70 hb71 hx47 hRB hr1 ht1 hr2 ht2
  unfold nodeV at HPARTS
  go_wp2_with fail
  refine HPARTS.out.mono ?_
  rintro e w8 ⟨rfl, hx8, S', hT8, hres⟩
  have HX8 : Hid (Ext (· = fb) w w8) := Lib.hid ((HX7.out.mono (M' := (· = fb)) (fun _ _ h => h.elim)).trans hx8 (fun b hb h => h.elim id (fun h => by
    simp only [List.mem_cons, List.not_mem_nil, or_false] at h
    rcases h with h | h <;> omega)))
  have HR8 := Lib.hid hres
  have hz8 := hx8.size
  have HT80 := Lib.hid (hT8 (w.heap.size + 1) (by simp))
  have HT81 := Lib.hid (hT8 kb (by simp))
  clear hx8 hres hT8
  have h80 := HT80.out
  simp only [DNE, if_true, if_false] at h80
  obtain ⟨hb8, hsz8, hone8⟩ := h80
  obtain ⟨x0, x1, x2, x3, x4, x5, x6, x7, x8, hS, o0, o1, o2, o3, o4, o5, o6, o7, o8⟩ := arrN9 hsz8 hone8
  rw [hS] at hb8
  clear hsz8 hone8
  have h81 := HT81.out
  simp only [DNE, if_true, if_false] at h81
  obtain ⟨hbk, hsz8, hone8⟩ := h81
  obtain ⟨y0, y1, y2, y3, y4, y5, y6, y7, y8, hSk, oo0, oo1, oo2, oo3, oo4, oo5, oo6, oo7, oo8⟩ := arrN9 hsz8 hone8
  rw [hSk] at hbk
  clear hsz8 hone8
  have c0 := hb8.cell 0
  have f0 := hb8.frozen 0
  have c1 := hb8.cell 1
  have f1 := hb8.frozen 1
  have c2 := hb8.cell 2
  have f2 := hb8.frozen 2
  have c3 := hb8.cell 3
  have f3 := hb8.frozen 3
  have c4 := hb8.cell 4
  have f4 := hb8.frozen 4
  have c5 := hb8.cell 5
  have f5 := hb8.frozen 5
  have c6 := hb8.cell 6
  have f6 := hb8.frozen 6
  have c7 := hb8.cell 7
  have f7 := hb8.frozen 7
  have c8 := hb8.cell 8
  have f8 := hb8.frozen 8
  simp only [List.getElem?_toArray, List.getElem?_cons_zero, List.getElem?_cons_succ] at c0 c1 c2 c3 c4 c5 c6 c7 c8
  have d0 := hbk.cell 0
  have g0 := hbk.frozen 0
  have d1 := hbk.cell 1
  have g1 := hbk.frozen 1
  have d2 := hbk.cell 2
  have g2 := hbk.frozen 2
  have d3 := hbk.cell 3
  have g3 := hbk.frozen 3
  have d4 := hbk.cell 4
  have g4 := hbk.frozen 4
  have d5 := hbk.cell 5
  have g5 := hbk.frozen 5
  have d6 := hbk.cell 6
  have g6 := hbk.frozen 6
  have d7 := hbk.cell 7
  have g7 := hbk.frozen 7
  have d8 := hbk.cell 8
  have g8 := hbk.frozen 8
  simp only [List.getElem?_toArray, List.getElem?_cons_zero, List.getElem?_cons_succ] at d0 d1 d2 d3 d4 d5 d6 d7 d8
  have hb9 := ((hb8.set 0 (.bool true)).set 8 (.slice (some ⟨w8.heap.size, 0, none⟩) 1 1)).alloc (.cells #[y0, y1, y2, y3, y4, y5, y6, y7, y8] 117)
  simp only [List.setIfInBounds_toArray, List.set_cons_succ, List.set_cons_zero] at hb9
  have hX9 : Ext (· = fb) w (((w8.setCell ⟨w.heap.size + 1, 0, none⟩ (.bool true)).setCell ⟨w.heap.size + 1, 8, none⟩ (.slice (some ⟨w8.heap.size, 0, none⟩) 1 1)).alloc (.cells #[y0, y1, y2, y3, y4, y5, y6, y7, y8] 117)) := ((HX8.out.setCell (p := ⟨w.heap.size + 1, 0, none⟩) (fun h => by have h : w.heap.size + 1 < w.heap.size := h; omega) (.bool true)).setCell (p := ⟨w.heap.size + 1, 8, none⟩) (fun h => by have h : w.heap.size + 1 < w.heap.size := h; omega) (.slice (some ⟨w8.heap.size, 0, none⟩) 1 1)).alloc (.cells #[y0, y1, y2, y3, y4, y5, y6, y7, y8] 117)
  have hE9 : Ext (· = w.heap.size + 1) w8 (((w8.setCell ⟨w.heap.size + 1, 0, none⟩ (.bool true)).setCell ⟨w.heap.size + 1, 8, none⟩ (.slice (some ⟨w8.heap.size, 0, none⟩) 1 1)).alloc (.cells #[y0, y1, y2, y3, y4, y5, y6, y7, y8] 117)) := (((Ext.refl (· = w.heap.size + 1) w8).setCell (p := ⟨w.heap.size + 1, 0, none⟩) (fun _ => rfl) (.bool true)).setCell (p := ⟨w.heap.size + 1, 8, none⟩) (fun _ => rfl) (.slice (some ⟨w8.heap.size, 0, none⟩) 1 1)).alloc (.cells #[y0, y1, y2, y3, y4, y5, y6, y7, y8] 117)
  have hk9 := Blk.new ((w8.setCell ⟨w.heap.size + 1, 0, none⟩ (.bool true)).setCell ⟨w.heap.size + 1, 8, none⟩ (.slice (some ⟨w8.heap.size, 0, none⟩) 1 1)) #[y0, y1, y2, y3, y4, y5, y6, y7, y8] 117
  have hsz : (((w8.setCell ⟨w.heap.size + 1, 0, none⟩ (.bool true)).setCell ⟨w.heap.size + 1, 8, none⟩ (.slice (some ⟨w8.heap.size, 0, none⟩) 1 1))).heap.size = w8.heap.size := by simp [World.setCell]
  rw [hsz] at hk9
  have hbs : ∀ w, (Instr.buildSlice 115 1 #[(0, .agg #[y0, y1, y2, y3, y4, y5, y6, y7, y8])]).run Tryz.prog w = .ok (.slice (some ⟨w.heap.size, 0, none⟩) 1 1) (w.alloc (.cells #[y0, y1, y2, y3, y4, y5, y6, y7, y8] 117)) := fun _ => by kernel_rfl
  have HB9 := Lib.hid hb9
  have HX9 := Lib.hid hX9
  have HE9 := Lib.hid hE9
  have HK9 := Lib.hid hk9
  have HS := Lib.hid hS
  have HSK := Lib.hid hSk
  have l9 : w.heap.size + 1 < w8.heap.size := by have := HZ7.out; omega
  have l10 : kb < w8.heap.size := by have := HZ7.out; omega
  clear hb8 hS hSk hbk hb9 hX9 hE9 hk9 hsz
  go_upto_region 7 with fail
  clear c0 f0 d0 g0 c1 f1 d1 g1 c2 f2 d2 g2 c3 f3 d3 g3 c4 f4 d4 g4 c5 f5 d5 g5 c6 f6 d6 g6 c7 f7 d7 g7 c8 f8 d8 g8 hbs
  generalize ((w8.setCell ⟨w.heap.size + 1, 0, none⟩ (.bool true)).setCell ⟨w.heap.size + 1, 8, none⟩ (.slice (some ⟨w8.heap.size, 0, none⟩) 1 1)).alloc (.cells #[y0, y1, y2, y3, y4, y5, y6, y7, y8] 117) = w9 at *
  have hb9 := HB9.out
  have l11 : w.heap.size + 1 < w9.heap.size := by have := HE9.out.size; omega
  have c0 := hb9.cell 0
  have f0 := hb9.frozen 0
  have c1 := hb9.cell 1
  have f1 := hb9.frozen 1
  have c2 := hb9.cell 2
  have f2 := hb9.frozen 2
  have c3 := hb9.cell 3
  have f3 := hb9.frozen 3
  have c4 := hb9.cell 4
  have f4 := hb9.frozen 4
  have c5 := hb9.cell 5
  have f5 := hb9.frozen 5
  have c6 := hb9.cell 6
  have f6 := hb9.frozen 6
  have c7 := hb9.cell 7
  have f7 := hb9.frozen 7
  have c8 := hb9.cell 8
  have f8 := hb9.frozen 8
  simp only [List.getElem?_toArray, List.getElem?_cons_zero, List.getElem?_cons_succ] at c0 c1 c2 c3 c4 c5 c6 c7 c8
  have st0 := store_ok (P := Tryz.prog) (hb9) 0 (.bool true) (by simp) rfl
  have st1 := store_ok (P := Tryz.prog) ((hb9.set 0 (.bool true))) 1 (x1) (by simp) o1
  have st2 := store_ok (P := Tryz.prog) (((hb9.set 0 (.bool true)).set 1 (x1))) 2 (x2) (by simp) o2
  have st3 := store_ok (P := Tryz.prog) ((((hb9.set 0 (.bool true)).set 1 (x1)).set 2 (x2))) 3 (x3) (by simp) o3
  have st4 := store_ok (P := Tryz.prog) (((((hb9.set 0 (.bool true)).set 1 (x1)).set 2 (x2)).set 3 (x3))) 4 (x4) (by simp) o4
  have st5 := store_ok (P := Tryz.prog) ((((((hb9.set 0 (.bool true)).set 1 (x1)).set 2 (x2)).set 3 (x3)).set 4 (x4))) 5 (x5) (by simp) o5
  have st6 := store_ok (P := Tryz.prog) (((((((hb9.set 0 (.bool true)).set 1 (x1)).set 2 (x2)).set 3 (x3)).set 4 (x4)).set 5 (x5))) 6 (x6) (by simp) o6
  have st7 := store_ok (P := Tryz.prog) ((((((((hb9.set 0 (.bool true)).set 1 (x1)).set 2 (x2)).set 3 (x3)).set 4 (x4)).set 5 (x5)).set 6 (x6))) 7 (x7) (by simp) o7
  have st8 := store_ok (P := Tryz.prog) (((((((((hb9.set 0 (.bool true)).set 1 (x1)).set 2 (x2)).set 3 (x3)).set 4 (x4)).set 5 (x5)).set 6 (x6)).set 7 (x7))) 8 (.slice (some ⟨w8.heap.size, 0, none⟩) 1 1) (by simp) rfl
  have HBF := Lib.hid hb9
  clear hb9
  go_wp2_with fail
  refine bodyPost_ret (v := .agg #[.bool true, x1, x2, x3, x4, x5, x6, x7, .slice (some ⟨w8.heap.size, 0, none⟩) 1 1]) (results_cell Tryz.results51 rfl (fun _ => by kernel_rfl) (fun _ => by kernel_rfl) (sets_new [.bool true, x1, x2, x3, x4, x5, x6, x7, .slice (some ⟨w8.heap.size, 0, none⟩) 1 1] HBF.out rfl)) rfl ⟨?_, [.bool true, x1, x2, x3, x4, x5, x6, x7, .slice (some ⟨w8.heap.size, 0, none⟩) 1 1], rfl, ⟨rfl, ones_cons rfl (ones_cons o1 (ones_cons o2 (ones_cons o3 (ones_cons o4 (ones_cons o5 (ones_cons o6 (ones_cons o7 (ones_cons rfl (ones_nil)))))))))⟩, ?_⟩
  · exact sets_ext (b := w.heap.size + 1) (fun h => by have h : w.heap.size + 1 < w.heap.size := h; omega) [.bool true, x1, x2, x3, x4, x5, x6, x7, .slice (some ⟨w8.heap.size, 0, none⟩) 1 1] 0 _ HX9.out
  · rw [HRES.out]
    have h := HR8.out
    have hz7 := HZ7.out
    have hx9 := HE9.out
    rcases kindB_cases br1 bt1 br2 bt2 (w.heap.size + 1) kb true p k with ⟨q, h1, h2⟩ | ⟨u1, u2, h1, h2⟩
    · rw [h1] at h
      rw [h2]
      exact sets_blk (b := w.heap.size + 1) HNB.1 [.bool true, x1, x2, x3, x4, x5, x6, x7, .slice (some ⟨w8.heap.size, 0, none⟩) 1 1] 0 _ (Fst.ext h hx9 (fun e => HNB.1 e.symm))
    · rw [h1] at h
      rw [h2]
      obtain ⟨hf8, xss, hp, hsr⟩ := h
      have hS := HS.out
      have hSK := HSK.out
      rw [hp] at hS hSK
      match xss, hsr, hp with
      | [y10, y11, y12], ⟨s0, _, s1, g1, s2, g2, _⟩, hp =>
        have s0 : y10 = [] := s0
        subst s0
        obtain ⟨a5, n5, cap5, rfl⟩ := s1
        obtain ⟨z0, z1, z2, z3, z4, z5, z6, z7, z8, rfl, _⟩ := len9 s2
        simp [puts, put, slotSkip, slotPms, slotTy, putL, DNE, DNE2] at hS hSK
        obtain ⟨rfl, rfl, rfl, rfl, rfl, rfl, rfl, rfl, rfl⟩ := hS
        obtain ⟨rfl, rfl, rfl, rfl, rfl, rfl, rfl, rfl, rfl⟩ := hSK
        have g1 := (g1.mono (D' := fun b => w.heap.size + 2 ≤ b) (fun b hb _ => by have : w7.heap.size ≤ b := hb; omega)).ext hx9 (fun b hb e => by have hb : w.heap.size + 2 ≤ b := hb; omega)
        have g2 := (g2.mono (D' := fun b => w.heap.size + 2 ≤ b) (fun b hb _ => by have : w7.heap.size ≤ b := hb; omega)).ext hx9 (fun b hb e => by have hb : w.heap.size + 2 ≤ b := hb; omega)
        have hk9 := HK9.out
        obtain ⟨v5, ys5, xs5, e5, r5, hh5, rfl⟩ := g1
        simp only [List.cons.injEq, and_true] at e5
        subst e5
        exact ⟨sets_blk (b := w.heap.size + 1) HNB.1 [.bool true, .string ⟨#[]⟩, .int .u8 0, .string ⟨#[]⟩, .bool false, .slice none 0 0, .slice none 0 0, .slice a5 n5 cap5, .slice (some ⟨w8.heap.size, 0, none⟩) 1 1] 0 _ (Fst.ext hf8 hx9 (fun e => HNB.1 e.symm)), (sets_rep (b := w.heap.size + 1) (D := fun b => w.heap.size + 2 ≤ b) (by omega) [.bool true, .string ⟨#[]⟩, .int .u8 0, .string ⟨#[]⟩, .bool false, .slice none 0 0, .slice none 0 0, .slice a5 n5 cap5, .slice (some ⟨w8.heap.size, 0, none⟩) 1 1] 0 _ (show Rep (fun b => w.heap.size + 2 ≤ b) w9 (encTy (.mk true ByteArray.empty .none u1 [u2])) [.bool true, .string ⟨#[]⟩, .int .u8 0, .string ⟨#[]⟩, .bool false, .slice none 0 0, .slice none 0 0, .slice a5 n5 cap5, .slice (some ⟨w8.heap.size, 0, none⟩) 1 1] from
          ⟨_, rfl, _, rfl, by decide, tm_tail (t := .none) (xs := [.int .u8 0, .string ⟨#[]⟩, .bool false, .slice none 0 0, .slice none 0 0]) ⟨_, rfl, _, rfl, by decide, _, rfl, _, [], _, rfl, rfl, held_nil _ _, _, [], _, rfl, rfl, held_nil _ _, rfl⟩ ⟨_, ys5, _, rfl, r5, hh5, _, [z0, z1, z2, z3, z4, z5, z6, z7, z8], _, rfl, g2, held_one hk9 (by omega), rfl⟩⟩)).mono (fun b hb _ => by have : w.heap.size + 2 ≤ b := hb; omega)⟩

theorem kind_any : ∀ n : Nat, KindC n
  | 0 => fun B fb wd kv r p k w h => by omega
  | n + 1 => fun B fb wd kv r p k w hkn hks hB hfb hF hk hwd => by
    have ih := kind_any n
    rw [kind_eq]
    cases e1 : wIs (headW r k) [45, 62] with
    | false => exact kind_plain wd kv r p fb k w hks hB hfb hF hk e1
    | true =>
      cases r with
      | false => cases e1
      | true => exact kind_fun ih wd kv p fb k w (by omega) hks hB hfb hF hk e1

end Go.Proofs.YtmcinpeplkkpfaaGreatDoor

namespace Go.Proofs.YtmcinpeplkkpfaaGreatDoor
open Go.RowKit
set_option linter.unusedVariables false
theorem backward_any (a : Option Addr) (n cap : Nat) (w : World) : Calls Tryz.prog 105 #[.slice a n cap] w fun e w' => e = .returned (.func (.func 140) #[] #[.pointer (some ⟨w.heap.size, 0, none⟩)]) ∧ w' = w.alloc (.cells #[.slice a n cap] 124) := by
  go_enter Tryz.func105, Tryz.ntmps105
  go_wp2_with fail
  go_ret
  exact ⟨rfl, rfl⟩

theorem back_none {n : Nat} (bx : Nat) (a : Option Addr) (cap : Nat) (w : World) (hb : bx < w.heap.size) (hc : w.cell? ⟨bx, 0, none⟩ = some (.slice a 0 cap)) :
    SeqStopsK Fence.wide n Tryz.prog 140 #[.pointer (some ⟨bx, 0, none⟩)] (fun x : Empty => nomatch x) (fun _ _ => True) (fun _ => True) (fun _ => False) 0 w := fun l J Jx W hW _ _ _ h0 => by
  have hc' := (hW.cell (p := ⟨bx, 0, none⟩) hb).trans hc
  refine callsIn_wide.2 ?_
  show Calls Tryz.prog 140 #[.func (.yield l) #[] #[], .pointer (some ⟨bx, 0, none⟩)] W _
  have HJ := Lib.hid h0
  clear h0 hW hc
  go_enter Tryz.func140, Tryz.ntmps140
  go_wp2_with fail
  go_loopg [3] 0 (fun q v wr => q = 0 ∧ v = .int .i64 (-1) ∧ wr = W)
  case atStart => exact ⟨rfl, rfl, rfl⟩
  case round =>
    obtain ⟨rfl, rfl, rfl⟩ := hrel
    go_wp2_with fail
    go_end0
    exact ⟨⟨_, rfl⟩, .inl ⟨[], trivial, HJ.out⟩⟩

theorem Elems.init {D : Nat → Prop} {w : World} : ∀ {f : F} {xs : List Value}, Elems D w f xs → Elems D w f.init (xs.take (f.init.len * 4))
  | .nil, _, h => by rw [show _ = [] from h]; rfl
  | .cons _ _ _ _ .nil, _, h => by simp [F.init, F.len, Elems]
  | .cons wd r p k (.cons a b c d e), _, ⟨kv, ys, xs', rfl, h1, h2, h3, h4⟩ => by
    have := Elems.init h4
    refine ⟨kv, ys, _, ?_, h1, h2, h3, this⟩
    show List.take (((F.cons a b c d e).init.len + 1) * 4) _ = _
    rw [show ((F.cons a b c d e).init.len + 1) * 4 = (F.cons a b c d e).init.len * 4 + 4 by omega]
    rfl

theorem Sl.init {D : Nat → Prop} {w : World} {a : Option Addr} {cap : Nat} {k : F} (h : Sl D w (.slice a k.len cap) k) : Sl D w (.slice a (k.len - 1) cap) k.init := by
  obtain ⟨ys, he, a', cap', e, h1, h2, h3, h4⟩ := h
  cases e
  refine ⟨_, Elems.init he, a, cap, by rw [F.len_init], by rw [F.len_init]; omega, h2, h3, ?_⟩
  rcases h4 with rfl | ⟨b, off, rfl, hD, hc⟩
  · exact .inl (by simp)
  · refine .inr ⟨b, off, rfl, hD, fun i x hi => hc i x ?_⟩
    rw [List.getElem?_take] at hi
    split at hi
    · exact hi
    · cases hi

theorem let_enters : ∀ args w, (callFunc 103 args).run Tryz.prog w = .ok (.enter 103 args) w := enters_of Tryz.func103 (by kernel_rfl) rfl

theorem luEx : LU encEx exsU := LU.of rfl fun a l => by
  show a.u (exsU l) = (a.u .nil).app (exsU l)
  rw [Ex.u_app]; rfl

theorem sets_heap {b D : Nat} (h : D ≠ b) : ∀ (xs : List Value) (i : Nat) (w : World), (sets w b i xs).heap[D]? = w.heap[D]?
  | [], _, _ => rfl
  | x :: xs, i, w => (sets_heap h xs (i + 1) _).trans (Below.heap_setCell _ _ _ _ (fun e => h e))

theorem Blk.putObj {w : World} {b l : Nat} {cs : Array Value} {t : TypeId} (h : Blk w b cs t) (hl : l ≠ b) (o : Obj) : Blk (w.putObj l o) b cs t := (World.putObj_heap_other (k := b) (fun e => hl (by first | exact e | exact e.symm))).trans h

theorem Ext.putObj {M : Nat → Prop} {a w : World} (h : Ext M a w) {l : Nat} (hl : a.heap.size ≤ l) (o : Obj) : Ext M a (w.putObj l o) :=
  h.grown (grownBy_putObj' w l o) (fun k e hk => by cases e; omega)

end Go.Proofs.YtmcinpeplkkpfaaGreatDoor

namespace Go.Proofs.YtmcinpeplkkpfaaGreatDoor
open Go.RowKit
set_option linter.unusedVariables false
set_option linter.unusedSimpArgs false
theorem store_new {P : Program} {w : World} {cs : Array Value} {t : TypeId} (i : Nat) (x : Value) (hi : i < cs.size) (hx : x.oneCell' = true) :
    (store ⟨w.heap.size, i, none⟩ x).run P (w.alloc (.cells cs t)) = .ok () (w.alloc (.cells (cs.setIfInBounds i x) t)) := by
  rw [store_ok (Blk.new w cs t) i x hi hx, World.setCell_alloc_new]

def noPanic (Q : Exit → Act → World → Prop) : Exit → Act → World → Prop
  | .panic _, _, _ => False
  | e, a, w => Q e a w

theorem wp_noPanic {P : Program} {c : Code} {Q : Exit → Act → World → Prop} {a : Act} {w : World} (h : c.wp P (noPanic Q) a w) : c.wp P Q a w :=
  wp_mono h (fun e a w h => by cases e <;> first | exact h | exact h.elim)

set_option maxRecDepth 100000 in
set_option maxHeartbeats 2000000 in
theorem body_one {B : Nat} (wd : ByteArray) (kv : Value) (p : Int) (fb : Nat) (k : F) (w : World) (hks : k.size ≤ 262144) (hB : B ≤ w.heap.size) (hfb : B ≤ fb) (hF : Fst w fb false 0) (hk : Sl (· < B) w kv k) (hl : k.len = 1)
    {wd1 : ByteArray} {r1 : Bool} {p1 : Int} {k1 : F} (hg1 : k.get 0 = some (wd1, r1, p1, k1))
    (HL : ∀ kv1 w1, B ≤ w1.heap.size → Fst w1 fb false 0 → Sl (· < B) w1 kv1 k1 → wd1.size ≤ maxLen → Calls Tryz.prog 104 #[nodeV wd1 kv1 r1 p1 fb] w1 (RdPost fb (shpN 11) mkAgg encEx (lastS k1 r1 p1) w1)) :
    Calls Tryz.prog 53 #[nodeV wd kv true p fb] w (RdPost fb (shpN 11) mkAgg encEx (lastS k1 r1 p1) w) := by
  have hkl := F.len_le_size k
  have HK1 := Lib.hid (fun w' (hx : Ext (· = fb) w w') => kid_any wd kv true p fb k 0 wd1 r1 p1 k1 w' (hk.ext hx (fun b hb hM => by omega)) hg1)
  have HLL := Lib.hid HL
  obtain ⟨a, cap, rfl, h1, h2⟩ := hk.shape
  have hi : k.init = .nil := by
    have := F.len_init k
    cases h : k.init with
    | nil => rfl
    | cons _ _ _ _ _ => rw [h] at this; simp [F.len] at this; omega
  have hk0 := hk.init
  rw [hi, hl] at hk0
  have HRS := Lib.hid (fun w' (hx : Ext (fun _ => False) w w') (hF : Fst w' fb false 0) => restEx_any (B := B) 103 encEx exsU (fun wd r p k => letE wd r p k) 0 ⟨#[]⟩ (.slice a (1 - 1) cap) true 0 fb .nil w' (Nat.le_trans hB hx.size) hfb hF (hk0.ext hx (fun b hb hM => hM)) (by decide) (by omega) luEx ⟨let_enters, fun i wd1 r1 p1 k1 kv1 w1 hg => by simp [F.get] at hg⟩)
  obtain ⟨res, hres0⟩ : ∃ res, res = lastS k1 r1 p1 := ⟨_, rfl⟩
  rw [← hres0] at HLL ⊢
  clear hres0 HL hk0 hi hg1
  rw [hl] at *
  obtain ⟨len, hlen⟩ : ∃ len, len = k.len := ⟨_, rfl⟩
  have hx1 := (Ext.refl (fun _ => False) w).alloc (.cells #[.string wd, .slice a 1 cap, .bool true, .int .i64 p, .pointer (some ⟨fb, 0, none⟩)] 57)
  have hx2 := hx1.alloc (.cells #[.int .u8 0, .string ⟨#[]⟩, .slice none 0 0, .slice none 0 0, .int .u8 0, .string ⟨#[]⟩, .bool false, .slice none 0 0, .bool false, .slice none 0 0, .slice none 0 0] 126)
  have hb2 := Blk.new (w.alloc (.cells #[.string wd, .slice a 1 cap, .bool true, .int .i64 p, .pointer (some ⟨fb, 0, none⟩)] 57)) #[.int .u8 0, .string ⟨#[]⟩, .slice none 0 0, .slice none 0 0, .int .u8 0, .string ⟨#[]⟩, .bool false, .slice none 0 0, .bool false, .slice none 0 0, .slice none 0 0] 126
  have hn2 := (NodeIn.new w wd (.slice a 1 cap) true p fb).alloc (.cells #[.int .u8 0, .string ⟨#[]⟩, .slice none 0 0, .slice none 0 0, .int .u8 0, .string ⟨#[]⟩, .bool false, .slice none 0 0, .bool false, .slice none 0 0, .slice none 0 0] 126)
  have hz : (w.alloc (.cells #[.string wd, .slice a 1 cap, .bool true, .int .i64 p, .pointer (some ⟨fb, 0, none⟩)] 57)).heap.size = w.heap.size + 1 := by simp
  have hz2 : ((w.alloc (.cells #[.string wd, .slice a 1 cap, .bool true, .int .i64 p, .pointer (some ⟨fb, 0, none⟩)] 57)).alloc (.cells #[.int .u8 0, .string ⟨#[]⟩, .slice none 0 0, .slice none 0 0, .int .u8 0, .string ⟨#[]⟩, .bool false, .slice none 0 0, .bool false, .slice none 0 0, .slice none 0 0] 126)).heap.size = w.heap.size + 2 := by simp
  rw [hz] at hb2
  have hF2 := Fst.ext hF hx2 id
  have hfl := Blk.lt hF
  have HNB : w.heap.size + 1 ≠ fb ∧ w.heap.size ≠ fb := by omega
  have HX2 := Lib.hid hx2
  have HB2 := Lib.hid hb2
  have HN2 := Lib.hid hn2
  have HF2 := Lib.hid hF2
  have HZ2 := Lib.hid hz2
  clear hz hz2 hk h1 h2 hx1 hlen hx2 hb2 hn2 hF2
  unfold nodeV at *
  refine (callsIn_wide (n := 8)).1 (callsIn_of_wp_marks Tryz.func53 rfl trivial ?_ rfl)
  refine wpIn_wide.2 ?_
  simp only [Tryz.ntmps53, List.size_toArray, List.length_cons, List.length_nil, Nat.reduceAdd, Nat.reduceSub, Array.replicate_succ, Array.replicate_zero, List.push_toArray, List.append_toArray, List.nil_append, List.cons_append]
  go_upto_region 4 with fail
  generalize (w.alloc (.cells #[.string wd, .slice a 1 cap, .bool true, .int .i64 p, .pointer (some ⟨fb, 0, none⟩)] 57)).alloc (.cells #[.int .u8 0, .string ⟨#[]⟩, .slice none 0 0, .slice none 0 0, .int .u8 0, .string ⟨#[]⟩, .bool false, .slice none 0 0, .bool false, .slice none 0 0, .slice none 0 0] 126) = w4 at *
  obtain ⟨m0, m1, m2, m3, m4⟩ := NodeIn.cells HN2.out
  haveI ne : Nonempty (Wd (fun x => Ext (· = fb) w4 x)) := ⟨⟨w4, Ext.refl _ _⟩⟩
  have q0 : ∀ x : (Wd (fun x => Ext (· = fb) w4 x)), x.w.cell? ⟨w.heap.size, 0, none⟩ = some (.string wd) := fun x => x.ok.cellSome m0 HNB.2
  have q1 : ∀ x : (Wd (fun x => Ext (· = fb) w4 x)), x.w.cell? ⟨w.heap.size, 1, none⟩ = some (.slice a 1 cap) := fun x => x.ok.cellSome m1 HNB.2
  have q2 : ∀ x : (Wd (fun x => Ext (· = fb) w4 x)), x.w.cell? ⟨w.heap.size, 2, none⟩ = some (.bool true) := fun x => x.ok.cellSome m2 HNB.2
  have q3 : ∀ x : (Wd (fun x => Ext (· = fb) w4 x)), x.w.cell? ⟨w.heap.size, 3, none⟩ = some (.int .i64 p) := fun x => x.ok.cellSome m3 HNB.2
  have q4 : ∀ x : (Wd (fun x => Ext (· = fb) w4 x)), x.w.cell? ⟨w.heap.size, 4, none⟩ = some (.pointer (some ⟨fb, 0, none⟩)) := fun x => x.ok.cellSome m4 HNB.2
  clear m0 m1 m2 m3 m4
  refine wp_noPanic ?_
  refine wp_region_steps (S := fun x => Ext (· = fb) w4 x) [([0, 1, 2, 3, 4, 5, 6, 7, 8, 9, 10, 11, 12], [13])] _ (by kernel_rfl) (by kernel_rfl) rfl (by kernel_rfl) (fun _ d _ _ _ h => by cases d <;> exact h) (Ext.refl _ _).drew ?_
  simp only [segOps, List.filterMap_cons, List.filterMap_nil, List.getElem?_cons_zero, List.getElem?_cons_succ]
  refine wpSegs_cons ?_
  change wpQuiet _ _ _ _ (_ :: _ :: _ :: _ :: _ :: _ :: _ :: _ :: _ :: _ :: _ :: _ :: _ :: []) _
  repeat (go_big_quiet_step (fail))
  refine wpQuiet_nil ?_
  refine wpLoud_step rfl (fun K hK => ?_)
  go_simp
  refine (HRS.out _ HX2.out.drew (Fst.drew HF2.out)).mono ?_
  rintro e v ⟨hx, xs, rfl, ⟨a9, n9, cap9, rfl⟩, hres⟩
  simp only [mkOne]
  have hx : Ext (· = fb) w4 v := ⟨hx.os, hx.tape, hx.output, hx.size, hx.block⟩
  obtain ⟨hfv, v5, ys5, xs5, e5, _, hh5, _⟩ : Fst v fb false 0 ∧ Rep (fun b => w4.drew.heap.size ≤ b) v (.sl 0 .nil .nil) [.slice a9 n9 cap9] := hres
  obtain ⟨a5, cap5, e6, _⟩ := hh5
  subst e6
  simp only [List.cons.injEq, Value.slice.injEq] at e5
  obtain ⟨⟨rfl, rfl, rfl⟩, rfl⟩ := e5
  refine hK _ _ hx ?_
  clear hK
  refine wpLoud_nil ?_
  refine wpSegs_nil ?_
  clear q0 q1 q2 q3 q4 ne
  have hXv := (HX2.out.mono (M' := (· = fb)) (fun _ _ h => h.elim)).trans' hx
  have hnv := NodeIn.ext HN2.out hx HNB.2
  have hbv := HB2.out.ext hx HNB.1
  have hzv := hx.size
  rw [HZ2.out] at hzv
  obtain ⟨n0, n1, n2, n3, n4⟩ := NodeIn.cells hnv
  obtain ⟨c0, c1⟩ := Fst.cells hfv
  have HXV := Lib.hid hXv
  have HNV := Lib.hid hnv
  have HBV := Lib.hid hbv
  have HFV := Lib.hid hfv
  clear hXv hnv hbv hfv hx HX2 HB2 HN2 HF2 HZ2 HRS
  go_wp2_with fail
  simp only [noPanic]
  go_wp2_with fail
  refine (HK1.out _ HXV.out).mono ?_
  rintro e w5 ⟨kv1, rfl, hx5, hs5, hsz5⟩
  have HX5 := Lib.hid (HXV.out.trans' (hx5.mono (M' := (· = fb)) (fun _ _ h => h.elim)))
  have HF5 := Lib.hid (Fst.ext HFV.out hx5 id)
  have HB5 := Lib.hid (HBV.out.ext hx5 id)
  have hz5 := hx5.size
  clear n0 n1 n2 n3 n4 c0 c1 hx5 HNV HXV HFV HBV HK1
  go_wp2_with fail
  have hla := HLL.out kv1 w5 (by omega) HF5.out hs5 hsz5
  refine hla.mono ?_
  rintro e w6 ⟨hx6, xs, rfl, hsh, hres⟩
  obtain ⟨x0, x1, x2, x3, x4, x5, x6, x7, x8, x9, x10, rfl, o0, o1, o2, o3, o4, o5, o6, o7, o8, o9, o10⟩ := len11 hsh
  simp only [mkAgg]
  have HX6 := Lib.hid (HX5.out.trans' hx6)
  have HB6 := Lib.hid (HB5.out.ext hx6 HNB.1)
  have HR6 := Lib.hid hres
  have hz6 := hx6.size
  clear hx6 hla hres hs5 hsz5 hsh HX5 HF5 HB5 HLL
  have sn0 := store_new (P := Tryz.prog) (w := w6) (cs := #[.int .u8 0, .string ⟨#[]⟩, .slice none 0 0, .slice none 0 0, .int .u8 0, .string ⟨#[]⟩, .bool false, .slice none 0 0, .bool false, .slice none 0 0, .slice none 0 0]) (t := 126) 0 x0 (by simp) o0
  have sn1 := store_new (P := Tryz.prog) (w := w6) (cs := #[x0, .string ⟨#[]⟩, .slice none 0 0, .slice none 0 0, .int .u8 0, .string ⟨#[]⟩, .bool false, .slice none 0 0, .bool false, .slice none 0 0, .slice none 0 0]) (t := 126) 1 x1 (by simp) o1
  have sn2 := store_new (P := Tryz.prog) (w := w6) (cs := #[x0, x1, .slice none 0 0, .slice none 0 0, .int .u8 0, .string ⟨#[]⟩, .bool false, .slice none 0 0, .bool false, .slice none 0 0, .slice none 0 0]) (t := 126) 2 x2 (by simp) o2
  have sn3 := store_new (P := Tryz.prog) (w := w6) (cs := #[x0, x1, x2, .slice none 0 0, .int .u8 0, .string ⟨#[]⟩, .bool false, .slice none 0 0, .bool false, .slice none 0 0, .slice none 0 0]) (t := 126) 3 x3 (by simp) o3
  have sn4 := store_new (P := Tryz.prog) (w := w6) (cs := #[x0, x1, x2, x3, .int .u8 0, .string ⟨#[]⟩, .bool false, .slice none 0 0, .bool false, .slice none 0 0, .slice none 0 0]) (t := 126) 4 x4 (by simp) o4
  have sn5 := store_new (P := Tryz.prog) (w := w6) (cs := #[x0, x1, x2, x3, x4, .string ⟨#[]⟩, .bool false, .slice none 0 0, .bool false, .slice none 0 0, .slice none 0 0]) (t := 126) 5 x5 (by simp) o5
  have sn6 := store_new (P := Tryz.prog) (w := w6) (cs := #[x0, x1, x2, x3, x4, x5, .bool false, .slice none 0 0, .bool false, .slice none 0 0, .slice none 0 0]) (t := 126) 6 x6 (by simp) o6
  have sn7 := store_new (P := Tryz.prog) (w := w6) (cs := #[x0, x1, x2, x3, x4, x5, x6, .slice none 0 0, .bool false, .slice none 0 0, .slice none 0 0]) (t := 126) 7 x7 (by simp) o7
  have sn8 := store_new (P := Tryz.prog) (w := w6) (cs := #[x0, x1, x2, x3, x4, x5, x6, x7, .bool false, .slice none 0 0, .slice none 0 0]) (t := 126) 8 x8 (by simp) o8
  have sn9 := store_new (P := Tryz.prog) (w := w6) (cs := #[x0, x1, x2, x3, x4, x5, x6, x7, x8, .slice none 0 0, .slice none 0 0]) (t := 126) 9 x9 (by simp) o9
  have sn10 := store_new (P := Tryz.prog) (w := w6) (cs := #[x0, x1, x2, x3, x4, x5, x6, x7, x8, x9, .slice none 0 0]) (t := 126) 10 x10 (by simp) o10
  simp only [List.setIfInBounds_toArray, List.set_cons_succ, List.set_cons_zero] at sn0 sn1 sn2 sn3 sn4 sn5 sn6 sn7 sn8 sn9 sn10
  go_upto_region 8 with fail
  clear sn0 sn1 sn2 sn3 sn4 sn5 sn6 sn7 sn8 sn9 sn10
  have hX7 := HX6.out.alloc (.cells #[x0, x1, x2, x3, x4, x5, x6, x7, x8, x9, x10] 126)
  have hB7 := Blk.alloc HB6.out (.cells #[x0, x1, x2, x3, x4, x5, x6, x7, x8, x9, x10] 126)
  have hE7 := Blk.new w6 #[x0, x1, x2, x3, x4, x5, x6, x7, x8, x9, x10] 126
  have hz7 : (w6.alloc (.cells #[x0, x1, x2, x3, x4, x5, x6, x7, x8, x9, x10] 126)).heap.size = w6.heap.size + 1 := by simp
  have hx7 := (Ext.refl (fun _ => False) w6).alloc (.cells #[x0, x1, x2, x3, x4, x5, x6, x7, x8, x9, x10] 126)
  have HX7 := Lib.hid hX7
  have HB7 := Lib.hid hB7
  have HE7 := Lib.hid hE7
  have HZ7 := Lib.hid hz7
  have HY7 := Lib.hid hx7
  clear hX7 hB7 hE7 hz7 hx7
  generalize w6.alloc (.cells #[x0, x1, x2, x3, x4, x5, x6, x7, x8, x9, x10] 126) = w7 at *
  go_wp2_with fail
  refine (backward_any a9 0 cap9 w7).mono ?_
  rintro e w8 ⟨rfl, rfl⟩
  go_wp2_with fail
  have hx8 := HY7.out.alloc (.cells #[.slice a9 0 cap9] 124)
  have hb8 := Blk.alloc HB7.out (.cells #[.slice a9 0 cap9] 124)
  have he8 := Blk.alloc HE7.out (.cells #[.slice a9 0 cap9] 124)
  have hX8 := HX7.out.alloc (.cells #[.slice a9 0 cap9] 124)
  have hc8 := (Blk.new w7 #[.slice a9 0 cap9] 124).cell 0
  simp only [List.getElem?_toArray, List.getElem?_cons_zero] at hc8
  have hz8 : (w7.alloc (.cells #[.slice a9 0 cap9] 124)).heap.size = w7.heap.size + 1 := by simp
  have hz7 := HZ7.out
  generalize w7.alloc (.cells #[.slice a9 0 cap9] 124) = w8 at *
  refine (wpIn_wide (n := 8)).1 ?_
  refine wpIn_rangeFunc_ownG (F := Fence.wide) (gf := 140) (lb := #[.pointer (some ⟨w7.heap.size, 0, none⟩)]) rfl (by decide) rfl trivial (enters_of Tryz.func140 (by kernel_rfl) rfl)
    (back_none w7.heap.size a9 cap9 w8 (by omega) hc8) (fun _ _ => trivial) (fun _ _ _ _ _ _ _ _ => trivial) (Below.refl _ _) (fun x => nomatch x)
    (fun _ W => Ext (fun _ => False) w8 W) (fun _ _ _ => False) (fun s W W' row hs hg hr => Ext.grown hs hg (fun k e hk => by have := (hr k e).1; omega)) (fun _ _ _ _ _ hs _ _ => hs) (Ext.refl _ _) (fun x => nomatch x) ?assign ?body ?done ?stop
  case assign => exact fun l x => nomatch x
  case body => exact fun l pre x => nomatch x
  case stop => exact fun D c pre W _ h => h.elim
  case done =>
    rintro D xs W hD _ hx hK
    have hbW := hb8.ext hx id
    have heW := he8.ext hx id
    have hzW := hx.size
    have HXW := Lib.hid (hX8.trans' (hx.mono (M' := (· = fb)) (fun _ _ h => h.elim)))
    have HYW := Lib.hid (hx8.trans' hx)
    have hD1 : D ≠ w.heap.size + 1 := by omega
    have hD2 : w6.heap.size ≤ D ∧ w.heap.size ≤ D := by omega
    have lb : w.heap.size + 1 < W.heap.size := by omega
    have le : w6.heap.size < W.heap.size := by omega
    have HKD := Lib.hid hK
    have c0 := hbW.cell 0
    have f0 := hbW.frozen 0
    have c1 := hbW.cell 1
    have f1 := hbW.frozen 1
    have c2 := hbW.cell 2
    have f2 := hbW.frozen 2
    have c3 := hbW.cell 3
    have f3 := hbW.frozen 3
    have c4 := hbW.cell 4
    have f4 := hbW.frozen 4
    have c5 := hbW.cell 5
    have f5 := hbW.frozen 5
    have c6 := hbW.cell 6
    have f6 := hbW.frozen 6
    have c7 := hbW.cell 7
    have f7 := hbW.frozen 7
    have c8 := hbW.cell 8
    have f8 := hbW.frozen 8
    have c9 := hbW.cell 9
    have f9 := hbW.frozen 9
    have c10 := hbW.cell 10
    have f10 := hbW.frozen 10
    simp only [List.getElem?_toArray, List.getElem?_cons_zero, List.getElem?_cons_succ] at c0 c1 c2 c3 c4 c5 c6 c7 c8 c9 c10
    have d0 := heW.cell 0
    have g0 := heW.frozen 0
    have d1 := heW.cell 1
    have g1 := heW.frozen 1
    have d2 := heW.cell 2
    have g2 := heW.frozen 2
    have d3 := heW.cell 3
    have g3 := heW.frozen 3
    have d4 := heW.cell 4
    have g4 := heW.frozen 4
    have d5 := heW.cell 5
    have g5 := heW.frozen 5
    have d6 := heW.cell 6
    have g6 := heW.frozen 6
    have d7 := heW.cell 7
    have g7 := heW.frozen 7
    have d8 := heW.cell 8
    have g8 := heW.frozen 8
    have d9 := heW.cell 9
    have g9 := heW.frozen 9
    have d10 := heW.cell 10
    have g10 := heW.frozen 10
    simp only [List.getElem?_toArray, List.getElem?_cons_zero, List.getElem?_cons_succ] at d0 d1 d2 d3 d4 d5 d6 d7 d8 d9 d10
    have st0 := store_ok (P := Tryz.prog) (hbW) 0 (x0) (by simp) o0
    have st1 := store_ok (P := Tryz.prog) ((hbW.set 0 (x0))) 1 (x1) (by simp) o1
    have st2 := store_ok (P := Tryz.prog) (((hbW.set 0 (x0)).set 1 (x1))) 2 (x2) (by simp) o2
    have st3 := store_ok (P := Tryz.prog) ((((hbW.set 0 (x0)).set 1 (x1)).set 2 (x2))) 3 (x3) (by simp) o3
    have st4 := store_ok (P := Tryz.prog) (((((hbW.set 0 (x0)).set 1 (x1)).set 2 (x2)).set 3 (x3))) 4 (x4) (by simp) o4
    have st5 := store_ok (P := Tryz.prog) ((((((hbW.set 0 (x0)).set 1 (x1)).set 2 (x2)).set 3 (x3)).set 4 (x4))) 5 (x5) (by simp) o5
    have st6 := store_ok (P := Tryz.prog) (((((((hbW.set 0 (x0)).set 1 (x1)).set 2 (x2)).set 3 (x3)).set 4 (x4)).set 5 (x5))) 6 (x6) (by simp) o6
    have st7 := store_ok (P := Tryz.prog) ((((((((hbW.set 0 (x0)).set 1 (x1)).set 2 (x2)).set 3 (x3)).set 4 (x4)).set 5 (x5)).set 6 (x6))) 7 (x7) (by simp) o7
    have st8 := store_ok (P := Tryz.prog) (((((((((hbW.set 0 (x0)).set 1 (x1)).set 2 (x2)).set 3 (x3)).set 4 (x4)).set 5 (x5)).set 6 (x6)).set 7 (x7))) 8 (x8) (by simp) o8
    have st9 := store_ok (P := Tryz.prog) ((((((((((hbW.set 0 (x0)).set 1 (x1)).set 2 (x2)).set 3 (x3)).set 4 (x4)).set 5 (x5)).set 6 (x6)).set 7 (x7)).set 8 (x8))) 9 (x9) (by simp) o9
    have st10 := store_ok (P := Tryz.prog) (((((((((((hbW.set 0 (x0)).set 1 (x1)).set 2 (x2)).set 3 (x3)).set 4 (x4)).set 5 (x5)).set 6 (x6)).set 7 (x7)).set 8 (x8)).set 9 (x9))) 10 (x10) (by simp) o10
    have HBF := Lib.hid hbW
    clear hbW heW hx hK hb8 he8 hX8 hx8 hc8 HB7 HE7 HX7 HY7 HX6 HB6
    go_wp2_with fail
    refine ⟨by simp, .inl ⟨_, _, rfl, run_takeDeferred ((sets_heap hD1 [x0, x1, x2, x3, x4, x5, x6, x7, x8, x9, x10] 0 W).trans HKD.out), ?_⟩⟩
    refine ⟨.agg #[x0, x1, x2, x3, x4, x5, x6, x7, x8, x9, x10], results_cell Tryz.results53 rfl (fun _ => by kernel_rfl) (fun _ => by kernel_rfl) (Blk.putObj (sets_new [x0, x1, x2, x3, x4, x5, x6, x7, x8, x9, x10] HBF.out rfl) hD1 _), ?_⟩
    have hF : Ext (· = w.heap.size + 1) w6 ((sets W (w.heap.size + 1) 0 [x0, x1, x2, x3, x4, x5, x6, x7, x8, x9, x10]).putObj D (.deferred none)) := Ext.putObj (sets_ext (M := (· = w.heap.size + 1)) (b := w.heap.size + 1) (fun _ => rfl) [x0, x1, x2, x3, x4, x5, x6, x7, x8, x9, x10] 0 _ (HYW.out.mono (fun _ _ h => h.elim))) hD2.1 _
    refine ⟨Ext.putObj (sets_ext (b := w.heap.size + 1) (fun h => by have h : w.heap.size + 1 < w.heap.size := h; omega) [x0, x1, x2, x3, x4, x5, x6, x7, x8, x9, x10] 0 _ HXW.out) hD2.2 _, [x0, x1, x2, x3, x4, x5, x6, x7, x8, x9, x10], rfl, ⟨rfl, ones_cons o0 (ones_cons o1 (ones_cons o2 (ones_cons o3 (ones_cons o4 (ones_cons o5 (ones_cons o6 (ones_cons o7 (ones_cons o8 (ones_cons o9 (ones_cons o10 (ones_nil)))))))))))⟩, ?_⟩
    have h := HR6.out
    cases hd : res with
    | error q =>
      rw [hd] at h
      exact Fst.ext h hF (fun e => HNB.1 e.symm)
    | ok e =>
      rw [hd] at h
      exact ⟨Fst.ext h.1 hF (fun e => HNB.1 e.symm), (h.2.ext hF (fun b hb e => by have hb : w5.heap.size ≤ b := hb; omega)).mono (fun b hb _ => by have hb : w5.heap.size ≤ b := hb; omega)⟩

end Go.Proofs.YtmcinpeplkkpfaaGreatDoor
