/- Texts put together by wip/shake.py: PLastR, PAwake, PNames: the walks and the laws that the claim's last theorem rests on. -/
import Derived.Test.YtmcinpeplkkpfaaGreatDoorZ18
import Derived.Test.YtmcinpeplkkpfaaGreatDoorZ21
namespace Go.Proofs.YtmcinpeplkkpfaaGreatDoor
open Go.RowKit
set_option linter.unusedVariables false
set_option linter.unusedSimpArgs false
set_option maxRecDepth 100000 in
set_option maxHeartbeats 2000000 in
theorem last_ret {B : Nat} (wd : ByteArray) (kv : Value) (r : Bool) (p : Int) (fb : Nat) (k : F) (w : World) (hks : k.size ≤ 262144) (hB : B ≤ w.heap.size) (hfb : B ≤ fb) (hF : Fst w fb false 0) (hk : Sl (· < B) w kv k) (e1 : wIs (headW r k) [114, 101, 116] = true) (hl : k.len = 2) {wd1 : ByteArray} {r1 : Bool} {p1 : Int} {k1 : F} (hg1 : k.get 1 = some (wd1, r1, p1, k1)) :
    Calls Tryz.prog 104 #[nodeV wd kv r p fb] w (RdPost fb (shpN 11) mkAgg encEx (mapR (fun a => Ex.mk 2 ByteArray.empty [] [] a [] []) (atomS wd1 r1 p1)) w) := by
  have hkl := F.len_le_size k
  have HHD := Lib.hid (fun w' (hx : Ext (fun _ => False) w w') => head_any wd kv r p fb k w' (hk.ext hx (fun _ _ h => h)))
  have HK1 := Lib.hid (fun w' (hx : Ext (fun _ => False) w w') => kid_any wd kv r p fb k 1 wd1 r1 p1 k1 w' (hk.ext hx (fun _ _ h => h)) hg1)
  obtain ⟨a, cap, rfl, h1, h2⟩ := hk.shape
  have HK := Lib.hid hk
  obtain ⟨res, hres0⟩ : ∃ res, res = mapR (fun a => Ex.mk 2 ByteArray.empty [] [] a [] []) (atomS wd1 r1 p1) := ⟨_, rfl⟩
  rw [← hres0]
  have HRES := Lib.hid hres0
  clear hres0
  have g1 : ((k.len : Int) == 2) = true := by simp; omega
  have g2 : decide ((k.len : Int) = 2) = true := by simp; omega
  clear hl
  clear hg1
  generalize headW r k = s at *
  rw [wIs_iff] at e1
  have e1' : s.toList = [114, 101, 116] := by simpa using e1
  have hx1 := (Ext.refl (fun _ => False) w).alloc (.cells #[.string wd, .slice a k.len cap, .bool r, .int .i64 p, .pointer (some ⟨fb, 0, none⟩)] 57)
  have hx2 := hx1.alloc (.cells #[.int .u8 0, .string ⟨#[]⟩, .slice none 0 0, .slice none 0 0, .int .u8 0, .string ⟨#[]⟩, .bool false, .slice none 0 0, .bool false, .slice none 0 0, .slice none 0 0] 126)
  have hb2 := Blk.new (w.alloc (.cells #[.string wd, .slice a k.len cap, .bool r, .int .i64 p, .pointer (some ⟨fb, 0, none⟩)] 57)) #[.int .u8 0, .string ⟨#[]⟩, .slice none 0 0, .slice none 0 0, .int .u8 0, .string ⟨#[]⟩, .bool false, .slice none 0 0, .bool false, .slice none 0 0, .slice none 0 0] 126
  have hn2 := (NodeIn.new w wd (.slice a k.len cap) r p fb).alloc (.cells #[.int .u8 0, .string ⟨#[]⟩, .slice none 0 0, .slice none 0 0, .int .u8 0, .string ⟨#[]⟩, .bool false, .slice none 0 0, .bool false, .slice none 0 0, .slice none 0 0] 126)
  have hz : (w.alloc (.cells #[.string wd, .slice a k.len cap, .bool r, .int .i64 p, .pointer (some ⟨fb, 0, none⟩)] 57)).heap.size = w.heap.size + 1 := by simp
  have hz2 : ((w.alloc (.cells #[.string wd, .slice a k.len cap, .bool r, .int .i64 p, .pointer (some ⟨fb, 0, none⟩)] 57)).alloc (.cells #[.int .u8 0, .string ⟨#[]⟩, .slice none 0 0, .slice none 0 0, .int .u8 0, .string ⟨#[]⟩, .bool false, .slice none 0 0, .bool false, .slice none 0 0, .slice none 0 0] 126)).heap.size = w.heap.size + 2 := by simp
  rw [hz] at hb2
  have hF2 := Fst.ext hF hx2 id
  have hfl := Blk.lt hF
  have HNB : w.heap.size + 1 ≠ fb ∧ w.heap.size ≠ fb := by omega
  have HZ2 := Lib.hid hz2
  clear hz hz2 hk h1 h2 hx1
  unfold nodeV at *
  go_enter Tryz.func104, Tryz.ntmps104
  go_wp2_with fail
  refine (HHD.out _ hx2).mono ?_
  rintro e w3 ⟨rfl, hx3⟩
  have hb3 := hb2.ext hx3 id
  have hn3 := NodeIn.ext hn2 hx3 id
  have HF3 := Lib.hid (Fst.ext hF2 hx3 id)
  have HX3 := Lib.hid (hx2.trans' hx3)
  have hs3 := hx3.size
  rw [HZ2.out] at hs3
  have l0 : w.heap.size < w3.heap.size := by omega
  have l1 : w.heap.size + 1 < w3.heap.size := by omega
  have c0 := hb3.cell 0
  have f0 := hb3.frozen 0
  have c1 := hb3.cell 1
  have f1 := hb3.frozen 1
  have c2 := hb3.cell 2
  have f2 := hb3.frozen 2
  have c3 := hb3.cell 3
  have f3 := hb3.frozen 3
  have c4 := hb3.cell 4
  have f4 := hb3.frozen 4
  have c5 := hb3.cell 5
  have f5 := hb3.frozen 5
  have c6 := hb3.cell 6
  have f6 := hb3.frozen 6
  have c7 := hb3.cell 7
  have f7 := hb3.frozen 7
  have c8 := hb3.cell 8
  have f8 := hb3.frozen 8
  have c9 := hb3.cell 9
  have f9 := hb3.frozen 9
  have c10 := hb3.cell 10
  have f10 := hb3.frozen 10
  simp only [List.getElem?_toArray, List.getElem?_cons_zero, List.getElem?_cons_succ] at c0 c1 c2 c3 c4 c5 c6 c7 c8 c9 c10
  obtain ⟨n0, n1, n2, n3', n4⟩ := hn3.cells
  clear hx2 hb2 hn2 hF2 hx3
  clear HHD
  go_wp2_with fail
  refine (HK1.out _ HX3.out).mono ?_
  rintro e w4 ⟨kv1, rfl, hx4, hs4, hsz4⟩
  have HX4 := Lib.hid (HX3.out.trans' hx4)
  have HF4 := Lib.hid (Fst.ext HF3.out hx4 id)
  have hb4 := hb3.ext hx4 id
  have hn4 := NodeIn.ext hn3 hx4 id
  have hz4 := hx4.size
  clear c0 f0 c1 f1 c2 f2 c3 f3 c4 f4 c5 f5 c6 f6 c7 f7 c8 f8 c9 f9 c10 f10 n0 n1 n2 n3' n4
  clear hx4 hb3 hn3 HK1
  go_wp2_with fail
  have hat := atom_any wd1 kv1 r1 p1 fb k1 w4 HF4.out hs4 hsz4
  unfold nodeV at hat
  refine hat.mono ?_
  rintro e w5 ⟨hx5, xs, rfl, hsh, hr5⟩
  obtain ⟨x0, x1, x2, x3, x4, rfl, o0, o1, o2, o3, o4⟩ := len5 hsh
  simp only [mkAgg]
  have HX5 := Lib.hid ((HX4.out.mono (M' := (· = fb)) (fun _ _ h => h.elim)).trans' hx5)
  have hb5 := hb4.ext hx5 (by omega)
  have hn5 := NodeIn.ext hn4 hx5 (by omega)
  have hz5 := hx5.size
  have l2 : w.heap.size < w5.heap.size := by omega
  have l3 : w.heap.size + 1 < w5.heap.size := by omega
  have c0 := hb5.cell 0
  have f0 := hb5.frozen 0
  have c1 := hb5.cell 1
  have f1 := hb5.frozen 1
  have c2 := hb5.cell 2
  have f2 := hb5.frozen 2
  have c3 := hb5.cell 3
  have f3 := hb5.frozen 3
  have c4 := hb5.cell 4
  have f4 := hb5.frozen 4
  have c5 := hb5.cell 5
  have f5 := hb5.frozen 5
  have c6 := hb5.cell 6
  have f6 := hb5.frozen 6
  have c7 := hb5.cell 7
  have f7 := hb5.frozen 7
  have c8 := hb5.cell 8
  have f8 := hb5.frozen 8
  have c9 := hb5.cell 9
  have f9 := hb5.frozen 9
  have c10 := hb5.cell 10
  have f10 := hb5.frozen 10
  simp only [List.getElem?_toArray, List.getElem?_cons_zero, List.getElem?_cons_succ] at c0 c1 c2 c3 c4 c5 c6 c7 c8 c9 c10
  obtain ⟨n0, n1, n2, n3', n4⟩ := hn5.cells
  have hA := hb5.set 0 (.int .u8 2)
  have sa0 := store_ok (P := Tryz.prog) (hA) 4 x0 (by simp) o0
  have sa1 := store_ok (P := Tryz.prog) ((hA.set 4 x0)) 5 x1 (by simp) o1
  have sa2 := store_ok (P := Tryz.prog) (((hA.set 4 x0).set 5 x1)) 6 x2 (by simp) o2
  have sa3 := store_ok (P := Tryz.prog) ((((hA.set 4 x0).set 5 x1).set 6 x2)) 7 x3 (by simp) o3
  have sa4 := store_ok (P := Tryz.prog) (((((hA.set 4 x0).set 5 x1).set 6 x2).set 7 x3)) 8 x4 (by simp) o4
  have hb6 := (((((hA.set 4 x0).set 5 x1).set 6 x2).set 7 x3).set 8 x4)
  simp only [List.setIfInBounds_toArray, List.set_cons_succ, List.set_cons_zero] at hb6
  have hX6 := (((((HX5.out.setCell (p := ⟨w.heap.size + 1, 0, none⟩) (fun h => by have h : w.heap.size + 1 < w.heap.size := h; omega) (.int .u8 2)).setCell (p := ⟨w.heap.size + 1, 4, none⟩) (fun h => by have h : w.heap.size + 1 < w.heap.size := h; omega) x0).setCell (p := ⟨w.heap.size + 1, 5, none⟩) (fun h => by have h : w.heap.size + 1 < w.heap.size := h; omega) x1).setCell (p := ⟨w.heap.size + 1, 6, none⟩) (fun h => by have h : w.heap.size + 1 < w.heap.size := h; omega) x2).setCell (p := ⟨w.heap.size + 1, 7, none⟩) (fun h => by have h : w.heap.size + 1 < w.heap.size := h; omega) x3).setCell (p := ⟨w.heap.size + 1, 8, none⟩) (fun h => by have h : w.heap.size + 1 < w.heap.size := h; omega) x4
  have hn6 : NodeIn ((((((w5.setCell ⟨w.heap.size + 1, 0, none⟩ (.int .u8 2)).setCell ⟨w.heap.size + 1, 4, none⟩ x0).setCell ⟨w.heap.size + 1, 5, none⟩ x1).setCell ⟨w.heap.size + 1, 6, none⟩ x2).setCell ⟨w.heap.size + 1, 7, none⟩ x3).setCell ⟨w.heap.size + 1, 8, none⟩ x4) w.heap.size wd (.slice a k.len cap) r p fb := Blk.setOther (Blk.setOther (Blk.setOther (Blk.setOther (Blk.setOther (Blk.setOther (hn5) ⟨w.heap.size + 1, 0, none⟩ (by simp) (.int .u8 2)) ⟨w.heap.size + 1, 4, none⟩ (by simp) (x0)) ⟨w.heap.size + 1, 5, none⟩ (by simp) (x1)) ⟨w.heap.size + 1, 6, none⟩ (by simp) (x2)) ⟨w.heap.size + 1, 7, none⟩ (by simp) (x3)) ⟨w.heap.size + 1, 8, none⟩ (by simp) (x4)
  have hz6 : ((((((w5.setCell ⟨w.heap.size + 1, 0, none⟩ (.int .u8 2)).setCell ⟨w.heap.size + 1, 4, none⟩ x0).setCell ⟨w.heap.size + 1, 5, none⟩ x1).setCell ⟨w.heap.size + 1, 6, none⟩ x2).setCell ⟨w.heap.size + 1, 7, none⟩ x3).setCell ⟨w.heap.size + 1, 8, none⟩ x4).heap.size = w5.heap.size := by simp [World.setCell]
  have hF6 : FstR ((((((w5.setCell ⟨w.heap.size + 1, 0, none⟩ (.int .u8 2)).setCell ⟨w.heap.size + 1, 4, none⟩ x0).setCell ⟨w.heap.size + 1, 5, none⟩ x1).setCell ⟨w.heap.size + 1, 6, none⟩ x2).setCell ⟨w.heap.size + 1, 7, none⟩ x3).setCell ⟨w.heap.size + 1, 8, none⟩ x4) fb (atomS wd1 r1 p1) := (((((((RdPost.fst (shp := shpN 5) (mk := mkAgg) (enc := encAo) (w := w4) hr5).setOther ⟨w.heap.size + 1, 0, none⟩ HNB.1 (.int .u8 2)).setOther ⟨w.heap.size + 1, 4, none⟩ HNB.1 (x0)).setOther ⟨w.heap.size + 1, 5, none⟩ HNB.1 (x1)).setOther ⟨w.heap.size + 1, 6, none⟩ HNB.1 (x2)).setOther ⟨w.heap.size + 1, 7, none⟩ HNB.1 (x3)).setOther ⟨w.heap.size + 1, 8, none⟩ HNB.1 (x4))
  have hR6 : match atomS wd1 r1 p1 with
    | .ok a => Rep (fun b => w4.heap.size ≤ b) ((((((w5.setCell ⟨w.heap.size + 1, 0, none⟩ (.int .u8 2)).setCell ⟨w.heap.size + 1, 4, none⟩ x0).setCell ⟨w.heap.size + 1, 5, none⟩ x1).setCell ⟨w.heap.size + 1, 6, none⟩ x2).setCell ⟨w.heap.size + 1, 7, none⟩ x3).setCell ⟨w.heap.size + 1, 8, none⟩ x4) (encAo a) [x0, x1, x2, x3, x4]
    | .error _ => True := by
    revert hr5
    cases atomS wd1 r1 p1 with
    | error q => exact fun _ => trivial
    | ok a => exact fun h => ((((((h.2.setOther ⟨w.heap.size + 1, 0, none⟩ (by simp; omega) (.int .u8 2)).setOther ⟨w.heap.size + 1, 4, none⟩ (by simp; omega) (x0)).setOther ⟨w.heap.size + 1, 5, none⟩ (by simp; omega) (x1)).setOther ⟨w.heap.size + 1, 6, none⟩ (by simp; omega) (x2)).setOther ⟨w.heap.size + 1, 7, none⟩ (by simp; omega) (x3)).setOther ⟨w.heap.size + 1, 8, none⟩ (by simp; omega) (x4))
  have HB6 := Lib.hid hb6
  have HX6 := Lib.hid hX6
  have HN6 := Lib.hid hn6
  have HF6 := Lib.hid hF6
  have HR6 := Lib.hid hR6
  have HZ6 := Lib.hid hz6
  clear hX6 hn6 hF6 hR6 hz6 hr5 hb4 hn4 hb5 hn5 hx5 hat hb6 hA
  go_upto_region 12 with fail
  clear c0 f0 c1 f1 c2 f2 c3 f3 c4 f4 c5 f5 c6 f6 c7 f7 c8 f8 c9 f9 c10 f10 n0 n1 n2 n3' n4
  clear sa0 sa1 sa2 sa3 sa4
  generalize (((((w5.setCell ⟨w.heap.size + 1, 0, none⟩ (.int .u8 2)).setCell ⟨w.heap.size + 1, 4, none⟩ x0).setCell ⟨w.heap.size + 1, 5, none⟩ x1).setCell ⟨w.heap.size + 1, 6, none⟩ x2).setCell ⟨w.heap.size + 1, 7, none⟩ x3).setCell ⟨w.heap.size + 1, 8, none⟩ x4 = w6 at *
  have hb6 := HB6.out
  have l6 : w.heap.size + 1 < w6.heap.size := by rw [HZ6.out]; exact l3
  have c0 := hb6.cell 0
  have f0 := hb6.frozen 0
  have c1 := hb6.cell 1
  have f1 := hb6.frozen 1
  have c2 := hb6.cell 2
  have f2 := hb6.frozen 2
  have c3 := hb6.cell 3
  have f3 := hb6.frozen 3
  have c4 := hb6.cell 4
  have f4 := hb6.frozen 4
  have c5 := hb6.cell 5
  have f5 := hb6.frozen 5
  have c6 := hb6.cell 6
  have f6 := hb6.frozen 6
  have c7 := hb6.cell 7
  have f7 := hb6.frozen 7
  have c8 := hb6.cell 8
  have f8 := hb6.frozen 8
  have c9 := hb6.cell 9
  have f9 := hb6.frozen 9
  have c10 := hb6.cell 10
  have f10 := hb6.frozen 10
  simp only [List.getElem?_toArray, List.getElem?_cons_zero, List.getElem?_cons_succ] at c0 c1 c2 c3 c4 c5 c6 c7 c8 c9 c10
  have st0 := store_ok (P := Tryz.prog) (hb6) 0 (.int .u8 2) (by simp) rfl
  have st1 := store_ok (P := Tryz.prog) ((hb6.set 0 (.int .u8 2))) 1 (.string ⟨#[]⟩) (by simp) rfl
  have st2 := store_ok (P := Tryz.prog) (((hb6.set 0 (.int .u8 2)).set 1 (.string ⟨#[]⟩))) 2 (.slice none 0 0) (by simp) rfl
  have st3 := store_ok (P := Tryz.prog) ((((hb6.set 0 (.int .u8 2)).set 1 (.string ⟨#[]⟩)).set 2 (.slice none 0 0))) 3 (.slice none 0 0) (by simp) rfl
  have st4 := store_ok (P := Tryz.prog) (((((hb6.set 0 (.int .u8 2)).set 1 (.string ⟨#[]⟩)).set 2 (.slice none 0 0)).set 3 (.slice none 0 0))) 4 (x0) (by simp) o0
  have st5 := store_ok (P := Tryz.prog) ((((((hb6.set 0 (.int .u8 2)).set 1 (.string ⟨#[]⟩)).set 2 (.slice none 0 0)).set 3 (.slice none 0 0)).set 4 (x0))) 5 (x1) (by simp) o1
  have st6 := store_ok (P := Tryz.prog) (((((((hb6.set 0 (.int .u8 2)).set 1 (.string ⟨#[]⟩)).set 2 (.slice none 0 0)).set 3 (.slice none 0 0)).set 4 (x0)).set 5 (x1))) 6 (x2) (by simp) o2
  have st7 := store_ok (P := Tryz.prog) ((((((((hb6.set 0 (.int .u8 2)).set 1 (.string ⟨#[]⟩)).set 2 (.slice none 0 0)).set 3 (.slice none 0 0)).set 4 (x0)).set 5 (x1)).set 6 (x2))) 7 (x3) (by simp) o3
  have st8 := store_ok (P := Tryz.prog) (((((((((hb6.set 0 (.int .u8 2)).set 1 (.string ⟨#[]⟩)).set 2 (.slice none 0 0)).set 3 (.slice none 0 0)).set 4 (x0)).set 5 (x1)).set 6 (x2)).set 7 (x3))) 8 (x4) (by simp) o4
  have st9 := store_ok (P := Tryz.prog) ((((((((((hb6.set 0 (.int .u8 2)).set 1 (.string ⟨#[]⟩)).set 2 (.slice none 0 0)).set 3 (.slice none 0 0)).set 4 (x0)).set 5 (x1)).set 6 (x2)).set 7 (x3)).set 8 (x4))) 9 (.slice none 0 0) (by simp) rfl
  have st10 := store_ok (P := Tryz.prog) (((((((((((hb6.set 0 (.int .u8 2)).set 1 (.string ⟨#[]⟩)).set 2 (.slice none 0 0)).set 3 (.slice none 0 0)).set 4 (x0)).set 5 (x1)).set 6 (x2)).set 7 (x3)).set 8 (x4)).set 9 (.slice none 0 0))) 10 (.slice none 0 0) (by simp) rfl
  have HBF := Lib.hid hb6
  clear hb6
  go_wp2_with fail
  refine bodyPost_ret (v := .agg #[.int .u8 2, .string ⟨#[]⟩, .slice none 0 0, .slice none 0 0, x0, x1, x2, x3, x4, .slice none 0 0, .slice none 0 0]) (results_cell Tryz.results104 rfl (fun _ => by kernel_rfl) (fun _ => by kernel_rfl) (sets_new [.int .u8 2, .string ⟨#[]⟩, .slice none 0 0, .slice none 0 0, x0, x1, x2, x3, x4, .slice none 0 0, .slice none 0 0] HBF.out rfl)) rfl ⟨?_, [.int .u8 2, .string ⟨#[]⟩, .slice none 0 0, .slice none 0 0, x0, x1, x2, x3, x4, .slice none 0 0, .slice none 0 0], rfl, ⟨rfl, ones_cons rfl (ones_cons rfl (ones_cons rfl (ones_cons rfl (ones_cons o0 (ones_cons o1 (ones_cons o2 (ones_cons o3 (ones_cons o4 (ones_cons rfl (ones_cons rfl (ones_nil)))))))))))⟩, ?_⟩
  · exact sets_ext (b := w.heap.size + 1) (fun h => by have h : w.heap.size + 1 < w.heap.size := h; omega) [.int .u8 2, .string ⟨#[]⟩, .slice none 0 0, .slice none 0 0, x0, x1, x2, x3, x4, .slice none 0 0, .slice none 0 0] 0 _ HX6.out
  · rw [HRES.out]
    have h := HF6.out
    have h2 := HR6.out
    cases hd : atomS wd1 r1 p1 with
    | error q =>
      rw [hd] at h
      exact sets_blk (b := w.heap.size + 1) HNB.1 [.int .u8 2, .string ⟨#[]⟩, .slice none 0 0, .slice none 0 0, x0, x1, x2, x3, x4, .slice none 0 0, .slice none 0 0] 0 _ h
    | ok a =>
      rw [hd] at h h2
      exact ⟨sets_blk (b := w.heap.size + 1) HNB.1 [.int .u8 2, .string ⟨#[]⟩, .slice none 0 0, .slice none 0 0, x0, x1, x2, x3, x4, .slice none 0 0, .slice none 0 0] 0 _ h, (sets_rep (b := w.heap.size + 1) (D := fun b => w.heap.size + 2 ≤ b) (by omega) [.int .u8 2, .string ⟨#[]⟩, .slice none 0 0, .slice none 0 0, x0, x1, x2, x3, x4, .slice none 0 0, .slice none 0 0] 0 _ (show Rep (fun b => w.heap.size + 2 ≤ b) w6 (encEx (.mk 2 ByteArray.empty [] [] a [] [])) [.int .u8 2, .string ⟨#[]⟩, .slice none 0 0, .slice none 0 0, x0, x1, x2, x3, x4, .slice none 0 0, .slice none 0 0] from ⟨_, rfl, _, rfl, by decide, _, [], _, rfl, rfl, held_nil _ _, _, [], _, rfl, rfl, held_nil _ _, ao_tail (xs := [x0, x1, x2, x3, x4]) (h2.mono (D' := fun b => w.heap.size + 2 ≤ b) (fun b hb _ => by have hb : w4.heap.size ≤ b := hb; omega)) ⟨_, [], _, rfl, rfl, held_nil _ _, _, [], _, rfl, rfl, held_nil _ _, rfl⟩⟩)).mono (fun b hb _ => by have : w.heap.size + 2 ≤ b := hb; omega)⟩

end Go.Proofs.YtmcinpeplkkpfaaGreatDoor

namespace Go.Proofs.YtmcinpeplkkpfaaGreatDoor
open Go.RowKit
set_option linter.unusedVariables false
set_option linter.unusedSimpArgs false
theorem body_ret {B fb : Nat} (hfb : B ≤ fb) (wd : ByteArray) (p : Int) (wdr : ByteArray) (rr : Bool) (pr : Int) (wd0 : ByteArray) (r0 : Bool) (p0 : Int) (k0 : F) (wd1 : ByteArray) (r1 : Bool) (p1 : Int) (k1 : F)
    (e : wIs (headW rr (.cons wd0 r0 p0 k0 (.cons wd1 r1 p1 k1 .nil))) [114, 101, 116] = true) (hks : (F.cons wdr rr pr (.cons wd0 r0 p0 k0 (.cons wd1 r1 p1 k1 .nil)) .nil).size ≤ 262144) :
    Reads1 B fb 53 (shpN 11) mkAgg encEx (fun wd r p k => bodyOf r p k (bodyS k)) wd true p (.cons wdr rr pr (.cons wd0 r0 p0 k0 (.cons wd1 r1 p1 k1 .nil)) .nil) := by
  intro kv w hB hF hsl hwd
  refine body_one wd kv p fb (.cons wdr rr pr (.cons wd0 r0 p0 k0 (.cons wd1 r1 p1 k1 .nil)) .nil) w hks hB hfb hF hsl rfl (wd1 := wdr) (r1 := rr) (p1 := pr) (k1 := .cons wd0 r0 p0 k0 (.cons wd1 r1 p1 k1 .nil)) rfl ?_
  intro kv2 w2 hB2 hF2 hsl2 hwd2
  have h := last_ret wdr kv2 rr pr fb (.cons wd0 r0 p0 k0 (.cons wd1 r1 p1 k1 .nil)) w2 (by simp only [F.size] at hks ⊢; omega) hB2 hfb hF2 hsl2 e rfl (wd1 := wd1) (r1 := r1) (p1 := p1) (k1 := k1) rfl
  have e2 : lastS (.cons wd0 r0 p0 k0 (.cons wd1 r1 p1 k1 .nil)) rr pr = mapR (fun a => Ex.mk 2 ByteArray.empty [] [] a [] []) (atomS wd1 r1 p1) := by
    rw [last_eq]
    show (if wIs (headW rr (.cons wd0 r0 p0 k0 (.cons wd1 r1 p1 k1 .nil))) [114, 101, 116] && (0 == 0) then mapR (fun a => Ex.mk 2 ByteArray.empty [] [] a [] []) (atomS wd1 r1 p1) else _) = _
    rw [e]; rfl
  rw [e2]; exact h

def txt1 : ByteArray := (⟨#[40, 102, 117, 110, 32, 109, 97, 105, 110, 32, 40, 40, 110, 32, 40, 105, 110, 116, 32, 116, 114, 117, 101, 41, 41, 41, 32, 40, 105, 110, 116, 32, 40, 61, 32, 118, 32, 110, 41, 41, 32, 40, 40, 114, 101, 116, 32, 110, 41, 41, 41]⟩ : ByteArray)

def txt2 : ByteArray := (⟨#[40, 102, 117, 110, 32, 109, 97, 105, 110, 41]⟩ : ByteArray)

def txt3 : ByteArray := (⟨#[40, 102, 117, 110, 32, 109, 97, 105, 110, 32, 40, 41, 32, 40, 105, 110, 116, 32, 49, 32, 50, 41, 32, 40, 40, 114, 101, 116, 32, 49, 41, 41, 41]⟩ : ByteArray)

def kidsOf (s : ByteArray) : F := match parseS s with | (.cons _ _ _ k _, _, _) => k | _ => .nil

def okB {α : Type} : RR α → Bool | .ok _ => true | .error _ => false

theorem tp1 : parseS txt1 = (.cons ⟨#[]⟩ true 0 (kidsOf txt1) .nil, 0, 0) := by kernel_rfl

theorem tp2 : parseS txt2 = (.cons ⟨#[]⟩ true 0 (kidsOf txt2) .nil, 0, 0) := by kernel_rfl

theorem tp3 : parseS txt3 = (.cons ⟨#[]⟩ true 0 (kidsOf txt3) .nil, 0, 0) := by kernel_rfl

theorem tf1 : okB (funB 0 (kidsOf txt1)) = true := by kernel_rfl

theorem tf2 : funB 0 (kidsOf txt2) = .error 0 := by kernel_rfl

theorem tf3 : funB 0 (kidsOf txt3) = .error 13 := by kernel_rfl

theorem th1 : wIs (headW true (kidsOf txt1)) [102, 117, 110] = true := by kernel_rfl

theorem th2 : wIs (headW true (kidsOf txt2)) [102, 117, 110] = true := by kernel_rfl

theorem th3 : wIs (headW true (kidsOf txt3)) [102, 117, 110] = true := by kernel_rfl

theorem ts1 : Nat.ble (kidsOf txt1).size 262144 = true := by kernel_rfl

theorem ts2 : Nat.ble (kidsOf txt2).size 262144 = true := by kernel_rfl

theorem ts3 : Nat.ble (kidsOf txt3).size 262144 = true := by kernel_rfl

theorem tg1 : (kidsOf txt1).get 4 = some (⟨#[]⟩, true, 41, .cons ⟨#[]⟩ true 42 (.cons (⟨#[114, 101, 116]⟩ : ByteArray) false 43 .nil (.cons (⟨#[110]⟩ : ByteArray) false 47 .nil .nil)) .nil) := by kernel_rfl

theorem tg2 : (kidsOf txt2).get 4 = none := by kernel_rfl

theorem tg3 : (kidsOf txt3).get 4 = some (⟨#[]⟩, true, 23, .cons ⟨#[]⟩ true 24 (.cons (⟨#[114, 101, 116]⟩ : ByteArray) false 25 .nil (.cons (⟨#[49]⟩ : ByteArray) false 29 .nil .nil)) .nil) := by kernel_rfl

theorem ex1 (w : World) : Calls Tryz.prog 11 #[.string txt1] w fun e w' => Ext (fun _ => False) w w' ∧ ∃ a cap, e = .returned (.tuple #[.agg #[.slice none 0 0, .slice none 0 0, .slice a 1 cap, .slice none 0 0], .int .i64 0, .int .i64 0]) := by
  refine (program_one txt1 w (by decide) tp1 (Nat.le_of_ble_eq_true ts1) th1 (fun B fb wd1 r1 p1 k1 hfb hg => ?_)).mono ?_
  · rw [tg1] at hg
    simp only [Option.some.injEq, Prod.mk.injEq] at hg
    obtain ⟨rfl, rfl, rfl, rfl⟩ := hg
    exact body_ret hfb _ _ _ _ _ _ _ _ _ _ _ _ _ (by kernel_rfl) (by decide)
  · rintro e w' ⟨hx, h⟩
    refine ⟨hx, ?_⟩
    have ho := tf1
    cases hf : funB 0 (kidsOf txt1) with
    | ok f => rw [hf] at h; exact h
    | error q => rw [hf] at ho; cases ho

theorem ex2 (w : World) : Calls Tryz.prog 11 #[.string txt2] w fun e w' => Ext (fun _ => False) w w' ∧ e = .returned (.tuple #[.agg #[.slice none 0 0, .slice none 0 0, .slice none 0 0, .slice none 0 0], .int .i64 0, .int .i64 20]) := by
  refine (program_one txt2 w (by decide) tp2 (Nat.le_of_ble_eq_true ts2) th2 (fun B fb wd1 r1 p1 k1 hfb hg => ?_)).mono ?_
  · rw [tg2] at hg
    cases hg
  · rintro e w' ⟨hx, h⟩
    rw [tf2] at h
    exact ⟨hx, h⟩

theorem ex3 (w : World) : Calls Tryz.prog 11 #[.string txt3] w fun e w' => Ext (fun _ => False) w w' ∧ e = .returned (.tuple #[.agg #[.slice none 0 0, .slice none 0 0, .slice none 0 0, .slice none 0 0], .int .i64 13, .int .i64 20]) := by
  refine (program_one txt3 w (by decide) tp3 (Nat.le_of_ble_eq_true ts3) th3 (fun B fb wd1 r1 p1 k1 hfb hg => ?_)).mono ?_
  · rw [tg3] at hg
    simp only [Option.some.injEq, Prod.mk.injEq] at hg
    obtain ⟨rfl, rfl, rfl, rfl⟩ := hg
    exact body_ret hfb _ _ _ _ _ _ _ _ _ _ _ _ _ (by kernel_rfl) (by decide)
  · rintro e w' ⟨hx, h⟩
    rw [tf3] at h
    exact ⟨hx, h⟩

set_option maxRecDepth 100000 in
set_option maxHeartbeats 2000000 in
theorem awake_any (w : World) : Calls Tryz.prog 8 #[] w fun e w' => e = .returned (.bool true) ∧ Ext (fun _ => False) w w' := by
  have P1 := Lib.hid ex1
  have P2 := Lib.hid ex2
  have P3 := Lib.hid ex3
  unfold txt1 at P1
  unfold txt2 at P2
  unfold txt3 at P3
  go_enter Tryz.func8, Tryz.ntmps8
  go_wp2_with fail
  refine (P1.out _).mono ?_
  rintro e w1 ⟨hx1, a, cap, rfl⟩
  have hb := Blk.new w1 #[.slice none 0 0, .slice none 0 0, .slice a 1 cap, .slice none 0 0] 29
  have hy1 := hx1.alloc (.cells #[.slice none 0 0, .slice none 0 0, .slice a 1 cap, .slice none 0 0] 29)
  have HB := Lib.hid hb
  have HY1 := Lib.hid hy1
  clear hb hy1 hx1 P1
  go_wp2_with fail
  generalize w1.alloc (.cells #[.slice none 0 0, .slice none 0 0, .slice a 1 cap, .slice none 0 0] 29) = v1 at *
  refine (P2.out _).mono ?_
  rintro e w2 ⟨hx2, rfl⟩
  have hy2 := hx2.alloc (.cells #[.slice none 0 0, .slice none 0 0, .slice none 0 0, .slice none 0 0] 29)
  have HB2 := Lib.hid (HB.out.ext hy2 id)
  have HY2 := Lib.hid (HY1.out.trans' hy2)
  clear hy2 hx2 P2 HB HY1
  go_wp2_with fail
  generalize w2.alloc (.cells #[.slice none 0 0, .slice none 0 0, .slice none 0 0, .slice none 0 0] 29) = v2 at *
  refine (P3.out _).mono ?_
  rintro e w3 ⟨hx3, rfl⟩
  have hb3 := HB2.out.ext hx3 id
  have HY3 := Lib.hid (HY2.out.trans' hx3)
  have c2 := hb3.cell 2
  simp only [List.getElem?_toArray, List.getElem?_cons_zero, List.getElem?_cons_succ] at c2
  have l1 := hb3.lt
  clear hx3 P3 HB2 HY2 hb3
  go_wp2_with fail
  go_ret
  exact ⟨rfl, HY3.out.alloc _⟩

end Go.Proofs.YtmcinpeplkkpfaaGreatDoor

namespace Go.Proofs.YtmcinpeplkkpfaaGreatDoor
open Go.RowKit
set_option linter.unusedVariables false
set_option maxRecDepth 100000 in
theorem parseNames_walk (s : ByteArray) (w : World) : Calls Tryz.prog 3 #[.string s] w fun e w' => e = .returned (.bool true) ∧ Ext (fun _ => False) w w' := by
  by_cases h : (3000 : Int) < (s.size : Int)
  · have h1 : decide ((3000 : Int) < (s.size : Int)) = true := by simpa using h
    have HA := Lib.hid (awake_any w)
    go_enter Tryz.func3, Tryz.ntmps3
    go_wp2_with fail
    refine HA.out.mono ?_
    rintro e w1 ⟨rfl, hx1⟩
    have HX := Lib.hid hx1
    clear hx1 HA
    go_wp2_with fail
    go_ret
    exact ⟨rfl, HX.out⟩
  · have h1 : decide ((3000 : Int) < (s.size : Int)) = false := by simpa using h
    have h2 : (s.size : Int) ≤ 3000 := by omega
    have HA := Lib.hid (awake_any w)
    go_enter Tryz.func3, Tryz.ntmps3
    go_wp2_with fail
    refine HA.out.mono ?_
    rintro e w1 ⟨rfl, hx1⟩
    have HX := Lib.hid hx1
    clear hx1 HA
    go_wp2_with fail
    refine (name_any s w1).mono ?_
    rintro e w2 ⟨rfl, hx2⟩
    have HX2 := Lib.hid (HX.out.trans' hx2)
    clear hx2 HX
    go_wp2_with fail
    refine (refName_any s w2).mono ?_
    rintro e w3 ⟨rfl, hx3⟩
    have HX3 := Lib.hid (HX2.out.trans' hx3)
    clear hx3 HX2
    go_wp2_with fail
    go_ret
    exact ⟨by simp, HX3.out⟩

end Go.Proofs.YtmcinpeplkkpfaaGreatDoor
