/- Texts put together by wip/shake.py: PRest, PRestBad, PLimbs, PNat, PCarry, PRow, POf: the walks and the laws that the claim's last theorem rests on. -/
import Derived.Test.YtmcinpeplkkpfaaGreatDoorZ9
import Derived.Test.YtmcinpeplkkpfaaGreatDoorZ7
import Derived.Laws.MakeOwn
import Derived.OwnWalk
namespace Go.Proofs.YtmcinpeplkkpfaaGreatDoor
open Go.RowKit
set_option linter.unusedVariables false
theorem eltTm : Elt Tryz.prog 39 41 5 80 := elt_of Tryz.underlying39 (by kernel_rfl) (by decide)

set_option maxRecDepth 100000 in
set_option maxHeartbeats 1000000 in
theorem restTm_any {B : Nat} (g : Nat) {α : Type} (enc : α → U) (lu : List α → U) (f : ByteArray → Bool → Int → F → RR α) (from_ : Nat) (wd : ByteArray) (kv : Value) (r : Bool) (p : Int) (fb : Nat) (k : F) (w : World)
    (hB : B ≤ w.heap.size) (hfb : B ≤ fb) (hF : Fst w fb false 0) (hk : Sl (· < B) w kv k) (hks : k.size ≤ 262144) (hfrom : from_ ≤ 100) (hlu : LU enc lu) (hread : ReadsKids B fb g (shpN 5) mkAgg enc f k) :
    Calls Tryz.prog 75 #[nodeV wd kv r p fb, .int .i64 from_, .func (.func g) #[] #[]] w (RdPost fb shpSl mkOne (fun l => .sl l.length (lu l) .nil) (eachS f (k.dropN from_)) w) := by
  have hkl := F.len_le_size k
  obtain ⟨a, cap, rfl, h1, h2⟩ := hk.shape
  unfold maxLen at h2
  unfold nodeV
  have hN := NodeIn.new w wd (.slice a k.len cap) r p fb
  have hx1 := (Ext.refl (· = fb) w).alloc (.cells #[.string wd, .slice a k.len cap, .bool r, .int .i64 p, .pointer (some ⟨fb, 0, none⟩)] 57)
  have hF1 : Fst (w.alloc (.cells #[.string wd, .slice a k.len cap, .bool r, .int .i64 p, .pointer (some ⟨fb, 0, none⟩)] 57)) fb false 0 := Fst.ext (M := fun _ => False) hF ((Ext.refl _ w).alloc _) id
  have hfl := Blk.lt hF
  have hsz1 : w.heap.size + 1 ≤ (w.alloc (.cells #[.string wd, .slice a k.len cap, .bool r, .int .i64 p, .pointer (some ⟨fb, 0, none⟩)] 57)).heap.size := by simp
  go_enter Tryz.func75, Tryz.ntmps75
  go_wp2_with fail
  generalize w.alloc (.cells #[.string wd, .slice a k.len cap, .bool r, .int .i64 p, .pointer (some ⟨fb, 0, none⟩)] 57) = w1 at *
  generalize hnbe : w.heap.size = nb at *
  have HNB := Lib.hid hnbe
  have HK := Lib.hid hk
  have HR := Lib.hid hread
  have HU := Lib.hid hlu
  have HX1 := Lib.hid hx1
  clear hnbe hk hread hlu hx1 hF
  have fb0 : fb < nb := hfl
  go_loopg [7, 8] (k.len - from_) (fun q v cv wr => ∃ j : Nat, cv = .int .i64 j ∧ q = k.len - j ∧ j ≤ 300000 ∧ Hid (Ext (· = fb) w1 wr) ∧ Hid (RestInv fb w1.heap.size 41 5 lu f k from_ j v wr) ∧ nb + 1 ≤ wr.heap.size)
  case atStart =>
    exact ⟨from_, rfl, rfl, by omega, Lib.hid (Ext.refl _ _), Lib.hid ⟨0, [], ⟨by simp, .inl ⟨rfl, rfl⟩⟩, by omega, .inl ⟨[], rfl, hF1, HU.out.nil ▸ rfl, (preR_nil _).symm⟩⟩, hsz1⟩
  case round =>
    obtain ⟨j, rfl, rfl, hj, HX, HI, hz⟩ := hrel
    have hNr := (hN.ext HX.out (by omega)).cells
    obtain ⟨n0, n1, n2, n3, n4⟩ := hNr
    obtain ⟨n, xs, hown, hnj, hor⟩ := HI.out
    have j0 : (0 : Int) ≤ (j : Int) := by omega
    have hxw := HX1.out.trans' HX.out
    have hxs := HX.out.size
    rcases hor with ⟨l, hl, hFr, hrep, heq⟩ | ⟨q, hFr, heq⟩
    · obtain ⟨c0, c1⟩ := hFr.cells
      by_cases hlt : j < k.len
      · have j1 : (j : Int) < (k.len : Int) := by omega
        obtain ⟨wd1, r1, p1, k1, hget⟩ := F.get_some hlt
        have hks1 := HK.out.ext hxw (fun b hb hM => by omega)
        have HG := Lib.hid hget
        have HXW := Lib.hid hxw
        have HF := Lib.hid hFr
        have HE := Lib.hid heq
        have HKS := Lib.hid hks1
        have HO := Lib.hid hown
        have HP := Lib.hid hrep
        clear hget hxw hFr heq HI hks1 hown hrep
        go_wp2_with fail
        refine (kid_any wd _ r p fb k j wd1 r1 p1 k1 _ HKS.out HG.out).mono ?_
        rintro e w2 ⟨kv1, rfl, hx2, hs1, hsz⟩
        have he := HR.out.1
        have hF2 := HF.out.ext hx2 id
        have hlw := hx2.size
        clear n0 n1 n2 n3 n4 c0 c1
        unfold nodeV
        go_wp2_with fail
        have hrd := HR.out.2 j wd1 r1 p1 k1 kv1 w2 HG.out (by omega) hF2 hs1 hsz
        unfold nodeV at hrd
        refine hrd.mono ?_
        rintro e w3 ⟨hx3, ys, rfl, hsh, hres⟩
        obtain ⟨x0, x1, x2, x3, x4, rfl, o0, o1, o2, o3, o4⟩ := len5 hsh
        simp only [mkAgg]
        have hlt2 := HO.out.lt
        have hown3 := owns_ext (owns_ext HO.out hx2 (fun _ _ _ h => h)) hx3 (fun b _ hb e => by omega)
        have hrep3 := (HP.out.ext hx2 (fun _ _ h => h)).ext hx3 (fun b hb e => by have := hb.1; omega)
        have hX3 := (HX.out.trans' (hx2.mono (fun _ _ h => h.elim))).trans' hx3
        have hsz3 := hx3.size
        have HRES := Lib.hid hres
        have HX3 := Lib.hid hX3
        clear he hF2 hs1 hsz hrd hx2 hx3 hres hX3
        go_wp2_with ((at_builtin; refine wpList_append_one rfl (.tmp 26) (.tmp 32) 39 rfl w1.heap.size 41 5 80 eltTm _ _ _ rfl hown3 [x0, x1, x2, x3, x4] rfl rfl (by simp [o0, o1, o2, o3, o4]) (by unfold maxLen; omega) (by omega) (by have := HX3.out.size; omega) ?_; intro v' w6 hown6 hg6))
        go_roundg (k.len - (j + 1))
        case measure => omega
        case rel =>
          refine ⟨j + 1, by simp, rfl, by omega, Lib.hid (hg6.ext HX3.out (fun b hb hlt => by have := (hlt2 b hb).1; omega)), Lib.hid ⟨n + 1, _, hown6, by omega, ?_⟩, by have := hg6.by_.size; omega⟩
          have hres := HRES.out
          cases hfa : f wd1 r1 p1 k1 with
          | error q =>
            rw [hfa] at hres
            exact .inr ⟨q, Blk.grewF hres hg6 (fun e => by have := (hlt2 fb e).1; omega), by rw [HE.out]; exact preR_err l f HG.out hfa⟩
          | ok a0 =>
            rw [hfa] at hres
            obtain ⟨hF3, hr3⟩ := hres
            refine .inl ⟨l ++ [a0], by simp [hl], Blk.grewF hF3 hg6 (fun e => by have := (hlt2 fb e).1; omega), ?_, by rw [HE.out]; exact preR_cons l f HG.out hfa⟩
            rw [HU.out.snoc]
            refine (hrep3.grew hg6).app (Rep.grew (hr3.mono ?_) hg6)
            exact fun b hb _ => ⟨by omega, fun e => by have := (hlt2 b e).2; omega⟩
      · have j1 : (k.len : Int) ≤ (j : Int) := by omega
        have jd : decide ((j : Int) < (k.len : Int)) = false := by simp; omega
        have hsl := slU_owned hown hrep
        obtain ⟨a7, cap7, rfl, _⟩ := hsl.shape
        have heq2 : eachS f (k.dropN from_) = .ok l := by rw [heq]; exact preR_end l f (by omega)
        have HSL := Lib.hid hsl
        have HE := Lib.hid heq2
        have HF := Lib.hid hFr
        have HXW := Lib.hid hxw
        have HL := Lib.hid hl
        clear hsl heq2 heq hFr hxw hown hrep HI hl
        go_wp2_with fail
        go_ret
        refine ⟨HXW.out, [.slice a7 n cap7], rfl, ⟨_, _, _, rfl⟩, ?_⟩
        rw [HE.out]
        refine ⟨HF.out, ?_⟩
        obtain ⟨ys, hr, hh⟩ := HSL.out.mono (D' := fun b => w.heap.size ≤ b) (fun b hb _ => by have := HNB.out; omega)
        show Rep _ _ (.sl l.length (lu l) .nil) _
        rw [HL.out]
        exact ⟨_, ys, [], rfl, hr, hh, rfl⟩
    · obtain ⟨c0, c1⟩ := hFr.cells
      obtain ⟨a7, n7, cap7, rfl⟩ := HI.out.sl
      have HE := Lib.hid heq
      have HF := Lib.hid hFr
      have HXW := Lib.hid hxw
      clear heq hFr hxw hown HI
      by_cases hlt : j < k.len
      · have j1 : (j : Int) < (k.len : Int) := by omega
        go_wp2_with fail
        go_ret
        exact ⟨HXW.out, [.slice a7 n7 cap7], rfl, ⟨_, _, _, rfl⟩, by rw [HE.out]; exact HF.out⟩
      · have j1 : (k.len : Int) ≤ (j : Int) := by omega
        have jd : decide ((j : Int) < (k.len : Int)) = false := by simp; omega
        go_wp2_with fail
        go_ret
        exact ⟨HXW.out, [.slice a7 n7 cap7], rfl, ⟨_, _, _, rfl⟩, by rw [HE.out]; exact HF.out⟩

theorem eltEx : Elt Tryz.prog 124 126 11 184 := elt_of Tryz.underlying124 (by kernel_rfl) (by decide)

set_option maxRecDepth 100000 in
set_option maxHeartbeats 1000000 in
theorem restEx_any {B : Nat} (g : Nat) {α : Type} (enc : α → U) (lu : List α → U) (f : ByteArray → Bool → Int → F → RR α) (from_ : Nat) (wd : ByteArray) (kv : Value) (r : Bool) (p : Int) (fb : Nat) (k : F) (w : World)
    (hB : B ≤ w.heap.size) (hfb : B ≤ fb) (hF : Fst w fb false 0) (hk : Sl (· < B) w kv k) (hks : k.size ≤ 262144) (hfrom : from_ ≤ 100) (hlu : LU enc lu) (hread : ReadsKids B fb g (shpN 11) mkAgg enc f k) :
    Calls Tryz.prog 102 #[nodeV wd kv r p fb, .int .i64 from_, .func (.func g) #[] #[]] w (RdPost fb shpSl mkOne (fun l => .sl l.length (lu l) .nil) (eachS f (k.dropN from_)) w) := by
  have hkl := F.len_le_size k
  obtain ⟨a, cap, rfl, h1, h2⟩ := hk.shape
  unfold maxLen at h2
  unfold nodeV
  have hN := NodeIn.new w wd (.slice a k.len cap) r p fb
  have hx1 := (Ext.refl (· = fb) w).alloc (.cells #[.string wd, .slice a k.len cap, .bool r, .int .i64 p, .pointer (some ⟨fb, 0, none⟩)] 57)
  have hF1 : Fst (w.alloc (.cells #[.string wd, .slice a k.len cap, .bool r, .int .i64 p, .pointer (some ⟨fb, 0, none⟩)] 57)) fb false 0 := Fst.ext (M := fun _ => False) hF ((Ext.refl _ w).alloc _) id
  have hfl := Blk.lt hF
  have hsz1 : w.heap.size + 1 ≤ (w.alloc (.cells #[.string wd, .slice a k.len cap, .bool r, .int .i64 p, .pointer (some ⟨fb, 0, none⟩)] 57)).heap.size := by simp
  go_enter Tryz.func102, Tryz.ntmps102
  go_wp2_with fail
  generalize w.alloc (.cells #[.string wd, .slice a k.len cap, .bool r, .int .i64 p, .pointer (some ⟨fb, 0, none⟩)] 57) = w1 at *
  generalize hnbe : w.heap.size = nb at *
  have HNB := Lib.hid hnbe
  have HK := Lib.hid hk
  have HR := Lib.hid hread
  have HU := Lib.hid hlu
  have HX1 := Lib.hid hx1
  clear hnbe hk hread hlu hx1 hF
  have fb0 : fb < nb := hfl
  go_loopg [7, 8] (k.len - from_) (fun q v cv wr => ∃ j : Nat, cv = .int .i64 j ∧ q = k.len - j ∧ j ≤ 300000 ∧ Hid (Ext (· = fb) w1 wr) ∧ Hid (RestInv fb w1.heap.size 126 11 lu f k from_ j v wr) ∧ nb + 1 ≤ wr.heap.size)
  case atStart =>
    exact ⟨from_, rfl, rfl, by omega, Lib.hid (Ext.refl _ _), Lib.hid ⟨0, [], ⟨by simp, .inl ⟨rfl, rfl⟩⟩, by omega, .inl ⟨[], rfl, hF1, HU.out.nil ▸ rfl, (preR_nil _).symm⟩⟩, hsz1⟩
  case round =>
    obtain ⟨j, rfl, rfl, hj, HX, HI, hz⟩ := hrel
    have hNr := (hN.ext HX.out (by omega)).cells
    obtain ⟨n0, n1, n2, n3, n4⟩ := hNr
    obtain ⟨n, xs, hown, hnj, hor⟩ := HI.out
    have j0 : (0 : Int) ≤ (j : Int) := by omega
    have hxw := HX1.out.trans' HX.out
    have hxs := HX.out.size
    rcases hor with ⟨l, hl, hFr, hrep, heq⟩ | ⟨q, hFr, heq⟩
    · obtain ⟨c0, c1⟩ := hFr.cells
      by_cases hlt : j < k.len
      · have j1 : (j : Int) < (k.len : Int) := by omega
        obtain ⟨wd1, r1, p1, k1, hget⟩ := F.get_some hlt
        have hks1 := HK.out.ext hxw (fun b hb hM => by omega)
        have HG := Lib.hid hget
        have HXW := Lib.hid hxw
        have HF := Lib.hid hFr
        have HE := Lib.hid heq
        have HKS := Lib.hid hks1
        have HO := Lib.hid hown
        have HP := Lib.hid hrep
        clear hget hxw hFr heq HI hks1 hown hrep
        go_wp2_with fail
        refine (kid_any wd _ r p fb k j wd1 r1 p1 k1 _ HKS.out HG.out).mono ?_
        rintro e w2 ⟨kv1, rfl, hx2, hs1, hsz⟩
        have he := HR.out.1
        have hF2 := HF.out.ext hx2 id
        have hlw := hx2.size
        clear n0 n1 n2 n3 n4 c0 c1
        unfold nodeV
        go_wp2_with fail
        have hrd := HR.out.2 j wd1 r1 p1 k1 kv1 w2 HG.out (by omega) hF2 hs1 hsz
        unfold nodeV at hrd
        refine hrd.mono ?_
        rintro e w3 ⟨hx3, ys, rfl, hsh, hres⟩
        obtain ⟨x0, x1, x2, x3, x4, x5, x6, x7, x8, x9, x10, rfl, o0, o1, o2, o3, o4, o5, o6, o7, o8, o9, o10⟩ := len11 hsh
        simp only [mkAgg]
        have hlt2 := HO.out.lt
        have hown3 := owns_ext (owns_ext HO.out hx2 (fun _ _ _ h => h)) hx3 (fun b _ hb e => by omega)
        have hrep3 := (HP.out.ext hx2 (fun _ _ h => h)).ext hx3 (fun b hb e => by have := hb.1; omega)
        have hX3 := (HX.out.trans' (hx2.mono (fun _ _ h => h.elim))).trans' hx3
        have hsz3 := hx3.size
        have HRES := Lib.hid hres
        have HX3 := Lib.hid hX3
        clear he hF2 hs1 hsz hrd hx2 hx3 hres hX3
        go_wp2_with ((at_builtin; refine wpList_append_one rfl (.tmp 26) (.tmp 32) 124 rfl w1.heap.size 126 11 184 eltEx _ _ _ rfl hown3 [x0, x1, x2, x3, x4, x5, x6, x7, x8, x9, x10] rfl rfl (by simp [o0, o1, o2, o3, o4, o5, o6, o7, o8, o9, o10]) (by unfold maxLen; omega) (by omega) (by have := HX3.out.size; omega) ?_; intro v' w6 hown6 hg6))
        go_roundg (k.len - (j + 1))
        case measure => omega
        case rel =>
          refine ⟨j + 1, by simp, rfl, by omega, Lib.hid (hg6.ext HX3.out (fun b hb hlt => by have := (hlt2 b hb).1; omega)), Lib.hid ⟨n + 1, _, hown6, by omega, ?_⟩, by have := hg6.by_.size; omega⟩
          have hres := HRES.out
          cases hfa : f wd1 r1 p1 k1 with
          | error q =>
            rw [hfa] at hres
            exact .inr ⟨q, Blk.grewF hres hg6 (fun e => by have := (hlt2 fb e).1; omega), by rw [HE.out]; exact preR_err l f HG.out hfa⟩
          | ok a0 =>
            rw [hfa] at hres
            obtain ⟨hF3, hr3⟩ := hres
            refine .inl ⟨l ++ [a0], by simp [hl], Blk.grewF hF3 hg6 (fun e => by have := (hlt2 fb e).1; omega), ?_, by rw [HE.out]; exact preR_cons l f HG.out hfa⟩
            rw [HU.out.snoc]
            refine (hrep3.grew hg6).app (Rep.grew (hr3.mono ?_) hg6)
            exact fun b hb _ => ⟨by omega, fun e => by have := (hlt2 b e).2; omega⟩
      · have j1 : (k.len : Int) ≤ (j : Int) := by omega
        have jd : decide ((j : Int) < (k.len : Int)) = false := by simp; omega
        have hsl := slU_owned hown hrep
        obtain ⟨a7, cap7, rfl, _⟩ := hsl.shape
        have heq2 : eachS f (k.dropN from_) = .ok l := by rw [heq]; exact preR_end l f (by omega)
        have HSL := Lib.hid hsl
        have HE := Lib.hid heq2
        have HF := Lib.hid hFr
        have HXW := Lib.hid hxw
        have HL := Lib.hid hl
        clear hsl heq2 heq hFr hxw hown hrep HI hl
        go_wp2_with fail
        go_ret
        refine ⟨HXW.out, [.slice a7 n cap7], rfl, ⟨_, _, _, rfl⟩, ?_⟩
        rw [HE.out]
        refine ⟨HF.out, ?_⟩
        obtain ⟨ys, hr, hh⟩ := HSL.out.mono (D' := fun b => w.heap.size ≤ b) (fun b hb _ => by have := HNB.out; omega)
        show Rep _ _ (.sl l.length (lu l) .nil) _
        rw [HL.out]
        exact ⟨_, ys, [], rfl, hr, hh, rfl⟩
    · obtain ⟨c0, c1⟩ := hFr.cells
      obtain ⟨a7, n7, cap7, rfl⟩ := HI.out.sl
      have HE := Lib.hid heq
      have HF := Lib.hid hFr
      have HXW := Lib.hid hxw
      clear heq hFr hxw hown HI
      by_cases hlt : j < k.len
      · have j1 : (j : Int) < (k.len : Int) := by omega
        go_wp2_with fail
        go_ret
        exact ⟨HXW.out, [.slice a7 n7 cap7], rfl, ⟨_, _, _, rfl⟩, by rw [HE.out]; exact HF.out⟩
      · have j1 : (k.len : Int) ≤ (j : Int) := by omega
        have jd : decide ((j : Int) < (k.len : Int)) = false := by simp; omega
        go_wp2_with fail
        go_ret
        exact ⟨HXW.out, [.slice a7 n7 cap7], rfl, ⟨_, _, _, rfl⟩, by rw [HE.out]; exact HF.out⟩

theorem eltPm : Elt Tryz.prog 114 204 10 168 := elt_of Tryz.underlying114 (by kernel_rfl) (by decide)

set_option maxRecDepth 100000 in
set_option maxHeartbeats 1000000 in
theorem restPm_any {B : Nat} (g : Nat) {α : Type} (enc : α → U) (lu : List α → U) (f : ByteArray → Bool → Int → F → RR α) (from_ : Nat) (wd : ByteArray) (kv : Value) (r : Bool) (p : Int) (fb : Nat) (k : F) (w : World)
    (hB : B ≤ w.heap.size) (hfb : B ≤ fb) (hF : Fst w fb false 0) (hk : Sl (· < B) w kv k) (hks : k.size ≤ 262144) (hfrom : from_ ≤ 100) (hlu : LU enc lu) (hread : ReadsKids B fb g (shpN 10) mkAgg enc f k) :
    Calls Tryz.prog 134 #[nodeV wd kv r p fb, .int .i64 from_, .func (.func g) #[] #[]] w (RdPost fb shpSl mkOne (fun l => .sl l.length (lu l) .nil) (eachS f (k.dropN from_)) w) := by
  have hkl := F.len_le_size k
  obtain ⟨a, cap, rfl, h1, h2⟩ := hk.shape
  unfold maxLen at h2
  unfold nodeV
  have hN := NodeIn.new w wd (.slice a k.len cap) r p fb
  have hx1 := (Ext.refl (· = fb) w).alloc (.cells #[.string wd, .slice a k.len cap, .bool r, .int .i64 p, .pointer (some ⟨fb, 0, none⟩)] 57)
  have hF1 : Fst (w.alloc (.cells #[.string wd, .slice a k.len cap, .bool r, .int .i64 p, .pointer (some ⟨fb, 0, none⟩)] 57)) fb false 0 := Fst.ext (M := fun _ => False) hF ((Ext.refl _ w).alloc _) id
  have hfl := Blk.lt hF
  have hsz1 : w.heap.size + 1 ≤ (w.alloc (.cells #[.string wd, .slice a k.len cap, .bool r, .int .i64 p, .pointer (some ⟨fb, 0, none⟩)] 57)).heap.size := by simp
  go_enter Tryz.func134, Tryz.ntmps134
  go_wp2_with fail
  generalize w.alloc (.cells #[.string wd, .slice a k.len cap, .bool r, .int .i64 p, .pointer (some ⟨fb, 0, none⟩)] 57) = w1 at *
  generalize hnbe : w.heap.size = nb at *
  have HNB := Lib.hid hnbe
  have HK := Lib.hid hk
  have HR := Lib.hid hread
  have HU := Lib.hid hlu
  have HX1 := Lib.hid hx1
  clear hnbe hk hread hlu hx1 hF
  have fb0 : fb < nb := hfl
  go_loopg [7, 8] (k.len - from_) (fun q v cv wr => ∃ j : Nat, cv = .int .i64 j ∧ q = k.len - j ∧ j ≤ 300000 ∧ Hid (Ext (· = fb) w1 wr) ∧ Hid (RestInv fb w1.heap.size 204 10 lu f k from_ j v wr) ∧ nb + 1 ≤ wr.heap.size)
  case atStart =>
    exact ⟨from_, rfl, rfl, by omega, Lib.hid (Ext.refl _ _), Lib.hid ⟨0, [], ⟨by simp, .inl ⟨rfl, rfl⟩⟩, by omega, .inl ⟨[], rfl, hF1, HU.out.nil ▸ rfl, (preR_nil _).symm⟩⟩, hsz1⟩
  case round =>
    obtain ⟨j, rfl, rfl, hj, HX, HI, hz⟩ := hrel
    have hNr := (hN.ext HX.out (by omega)).cells
    obtain ⟨n0, n1, n2, n3, n4⟩ := hNr
    obtain ⟨n, xs, hown, hnj, hor⟩ := HI.out
    have j0 : (0 : Int) ≤ (j : Int) := by omega
    have hxw := HX1.out.trans' HX.out
    have hxs := HX.out.size
    rcases hor with ⟨l, hl, hFr, hrep, heq⟩ | ⟨q, hFr, heq⟩
    · obtain ⟨c0, c1⟩ := hFr.cells
      by_cases hlt : j < k.len
      · have j1 : (j : Int) < (k.len : Int) := by omega
        obtain ⟨wd1, r1, p1, k1, hget⟩ := F.get_some hlt
        have hks1 := HK.out.ext hxw (fun b hb hM => by omega)
        have HG := Lib.hid hget
        have HXW := Lib.hid hxw
        have HF := Lib.hid hFr
        have HE := Lib.hid heq
        have HKS := Lib.hid hks1
        have HO := Lib.hid hown
        have HP := Lib.hid hrep
        clear hget hxw hFr heq HI hks1 hown hrep
        go_wp2_with fail
        refine (kid_any wd _ r p fb k j wd1 r1 p1 k1 _ HKS.out HG.out).mono ?_
        rintro e w2 ⟨kv1, rfl, hx2, hs1, hsz⟩
        have he := HR.out.1
        have hF2 := HF.out.ext hx2 id
        have hlw := hx2.size
        clear n0 n1 n2 n3 n4 c0 c1
        unfold nodeV
        go_wp2_with fail
        have hrd := HR.out.2 j wd1 r1 p1 k1 kv1 w2 HG.out (by omega) hF2 hs1 hsz
        unfold nodeV at hrd
        refine hrd.mono ?_
        rintro e w3 ⟨hx3, ys, rfl, hsh, hres⟩
        obtain ⟨x0, x1, x2, x3, x4, x5, x6, x7, x8, x9, rfl, o0, o1, o2, o3, o4, o5, o6, o7, o8, o9⟩ := len10 hsh
        simp only [mkAgg]
        have hlt2 := HO.out.lt
        have hown3 := owns_ext (owns_ext HO.out hx2 (fun _ _ _ h => h)) hx3 (fun b _ hb e => by omega)
        have hrep3 := (HP.out.ext hx2 (fun _ _ h => h)).ext hx3 (fun b hb e => by have := hb.1; omega)
        have hX3 := (HX.out.trans' (hx2.mono (fun _ _ h => h.elim))).trans' hx3
        have hsz3 := hx3.size
        have HRES := Lib.hid hres
        have HX3 := Lib.hid hX3
        clear he hF2 hs1 hsz hrd hx2 hx3 hres hX3
        go_wp2_with ((at_builtin; refine wpList_append_one rfl (.tmp 26) (.tmp 32) 114 rfl w1.heap.size 204 10 168 eltPm _ _ _ rfl hown3 [x0, x1, x2, x3, x4, x5, x6, x7, x8, x9] rfl rfl (by simp [o0, o1, o2, o3, o4, o5, o6, o7, o8, o9]) (by unfold maxLen; omega) (by omega) (by have := HX3.out.size; omega) ?_; intro v' w6 hown6 hg6))
        go_roundg (k.len - (j + 1))
        case measure => omega
        case rel =>
          refine ⟨j + 1, by simp, rfl, by omega, Lib.hid (hg6.ext HX3.out (fun b hb hlt => by have := (hlt2 b hb).1; omega)), Lib.hid ⟨n + 1, _, hown6, by omega, ?_⟩, by have := hg6.by_.size; omega⟩
          have hres := HRES.out
          cases hfa : f wd1 r1 p1 k1 with
          | error q =>
            rw [hfa] at hres
            exact .inr ⟨q, Blk.grewF hres hg6 (fun e => by have := (hlt2 fb e).1; omega), by rw [HE.out]; exact preR_err l f HG.out hfa⟩
          | ok a0 =>
            rw [hfa] at hres
            obtain ⟨hF3, hr3⟩ := hres
            refine .inl ⟨l ++ [a0], by simp [hl], Blk.grewF hF3 hg6 (fun e => by have := (hlt2 fb e).1; omega), ?_, by rw [HE.out]; exact preR_cons l f HG.out hfa⟩
            rw [HU.out.snoc]
            refine (hrep3.grew hg6).app (Rep.grew (hr3.mono ?_) hg6)
            exact fun b hb _ => ⟨by omega, fun e => by have := (hlt2 b e).2; omega⟩
      · have j1 : (k.len : Int) ≤ (j : Int) := by omega
        have jd : decide ((j : Int) < (k.len : Int)) = false := by simp; omega
        have hsl := slU_owned hown hrep
        obtain ⟨a7, cap7, rfl, _⟩ := hsl.shape
        have heq2 : eachS f (k.dropN from_) = .ok l := by rw [heq]; exact preR_end l f (by omega)
        have HSL := Lib.hid hsl
        have HE := Lib.hid heq2
        have HF := Lib.hid hFr
        have HXW := Lib.hid hxw
        have HL := Lib.hid hl
        clear hsl heq2 heq hFr hxw hown hrep HI hl
        go_wp2_with fail
        go_ret
        refine ⟨HXW.out, [.slice a7 n cap7], rfl, ⟨_, _, _, rfl⟩, ?_⟩
        rw [HE.out]
        refine ⟨HF.out, ?_⟩
        obtain ⟨ys, hr, hh⟩ := HSL.out.mono (D' := fun b => w.heap.size ≤ b) (fun b hb _ => by have := HNB.out; omega)
        show Rep _ _ (.sl l.length (lu l) .nil) _
        rw [HL.out]
        exact ⟨_, ys, [], rfl, hr, hh, rfl⟩
    · obtain ⟨c0, c1⟩ := hFr.cells
      obtain ⟨a7, n7, cap7, rfl⟩ := HI.out.sl
      have HE := Lib.hid heq
      have HF := Lib.hid hFr
      have HXW := Lib.hid hxw
      clear heq hFr hxw hown HI
      by_cases hlt : j < k.len
      · have j1 : (j : Int) < (k.len : Int) := by omega
        go_wp2_with fail
        go_ret
        exact ⟨HXW.out, [.slice a7 n7 cap7], rfl, ⟨_, _, _, rfl⟩, by rw [HE.out]; exact HF.out⟩
      · have j1 : (k.len : Int) ≤ (j : Int) := by omega
        have jd : decide ((j : Int) < (k.len : Int)) = false := by simp; omega
        go_wp2_with fail
        go_ret
        exact ⟨HXW.out, [.slice a7 n7 cap7], rfl, ⟨_, _, _, rfl⟩, by rw [HE.out]; exact HF.out⟩

end Go.Proofs.YtmcinpeplkkpfaaGreatDoor

namespace Go.Proofs.YtmcinpeplkkpfaaGreatDoor
open Go.RowKit
set_option linter.unusedVariables false
set_option maxRecDepth 100000 in
theorem restTm_bad {B : Nat} (fv : Value) (from_ : Nat) (wd : ByteArray) (kv : Value) (r : Bool) (p q0 : Int) (fb : Nat) (k : F) (w : World) (hfv : ∃ f, fv = .func f #[] #[])
    (hF : Fst w fb true q0) (hk : Sl (· < B) w kv k) :
    Calls Tryz.prog 75 #[nodeV wd kv r p fb, .int .i64 from_, fv] w (fun e w' => e = .returned (.slice none 0 0) ∧ Ext (fun _ => False) w w') := by
  obtain ⟨fv, rfl⟩ := hfv
  obtain ⟨a, cap, rfl, h1, h2⟩ := hk.shape
  unfold nodeV
  have hN := NodeIn.new w wd (.slice a k.len cap) r p fb
  have hx1 := (Ext.refl (fun _ => False) w).alloc (.cells #[.string wd, .slice a k.len cap, .bool r, .int .i64 p, .pointer (some ⟨fb, 0, none⟩)] 57)
  have hF1 : Fst (w.alloc (.cells #[.string wd, .slice a k.len cap, .bool r, .int .i64 p, .pointer (some ⟨fb, 0, none⟩)] 57)) fb true q0 := Fst.ext (M := fun _ => False) hF ((Ext.refl _ w).alloc _) id
  have hfl := Blk.lt hF
  go_enter Tryz.func75, Tryz.ntmps75
  go_wp2_with fail
  generalize w.alloc (.cells #[.string wd, .slice a k.len cap, .bool r, .int .i64 p, .pointer (some ⟨fb, 0, none⟩)] 57) = w1 at *
  generalize hnbe : w.heap.size = nb at *
  have HX1 := Lib.hid hx1
  clear hnbe hk hx1 hF
  go_loopg [7, 8] 0 (fun q v cv wr => q = 0 ∧ cv = .int .i64 from_ ∧ v = .slice none 0 0 ∧ wr = w1)
  case atStart => exact ⟨rfl, rfl, rfl, rfl⟩
  case round =>
    obtain ⟨rfl, rfl, rfl, rfl⟩ := hrel
    obtain ⟨n0, n1, n2, n3, n4⟩ := hN.cells
    obtain ⟨c0, c1⟩ := hF1.cells
    by_cases hlt : (from_ : Int) < (k.len : Int)
    · have jd : decide ((from_ : Int) < (k.len : Int)) = true := by simp; omega
      go_wp2_with fail
      go_ret
      exact ⟨rfl, HX1.out⟩
    · have j1 : (k.len : Int) ≤ (from_ : Int) := by omega
      have jd : decide ((from_ : Int) < (k.len : Int)) = false := by simp; omega
      go_wp2_with fail
      go_ret
      exact ⟨rfl, HX1.out⟩

end Go.Proofs.YtmcinpeplkkpfaaGreatDoor

namespace Go.Proofs.YtmcinpeplkkpfaaGreatDoor
def base9 : Nat := 1000000000

def valD : List Nat → Nat | [] => 0 | d :: l => d + base9 * valD l

def trimD : List Nat → List Nat
  | [] => []
  | d :: l => if trimD l = [] ∧ d = 0 then [] else d :: trimD l

def carryL : Nat → List Nat → List Nat
  | c, [] => limbs c
  | c, d :: l => (c + d) % base9 :: carryL ((c + d) / base9) l

theorem limbsK_zero : ∀ k, limbsK k 0 = [] | 0 => rfl | _ + 1 => rfl

theorem limbsK_fuel : ∀ (k k' n : Nat), n ≤ k → n ≤ k' → limbsK k n = limbsK k' n
  | 0, k', n, h, _ => by
    obtain rfl : n = 0 := by omega
    rw [limbsK_zero, limbsK_zero]
  | k + 1, 0, n, _, h => by
    obtain rfl : n = 0 := by omega
    rw [limbsK_zero, limbsK_zero]
  | k + 1, k' + 1, n, h, h' => by
    unfold limbsK
    split
    · rfl
    · rw [limbsK_fuel k k' (n / 1000000000) (by omega) (by omega)]

theorem limbs_zero : limbs 0 = [] := rfl

theorem limbs_pos {n : Nat} (h : n ≠ 0) : limbs n = n % base9 :: limbs (n / base9) := by
  unfold limbs
  cases n with
  | zero => exact absurd rfl h
  | succ n =>
    rw [limbsK, if_neg h]
    unfold base9
    rw [limbsK_fuel n ((n + 1) / 1000000000) _ (by omega) (Nat.le_refl _)]

theorem limbs_mul (d m : Nat) (hd : d < base9) (hm : m ≠ 0) : limbs (d + base9 * m) = d :: limbs m := by
  unfold base9 at *
  rw [limbs_pos (by omega)]
  unfold base9
  rw [show (d + 1000000000 * m) % 1000000000 = d by omega, show (d + 1000000000 * m) / 1000000000 = m by omega]

theorem limbs_small {d : Nat} (hd : d < base9) (h0 : d ≠ 0) : limbs d = [d] := by
  unfold base9 at hd
  rw [limbs_pos h0]
  unfold base9
  rw [show d % 1000000000 = d by omega, show d / 1000000000 = 0 by omega, limbs_zero]

theorem limbs_nil {n : Nat} (h : limbs n = []) : n = 0 := by
  by_cases h0 : n = 0
  · exact h0
  · rw [limbs_pos h0] at h; cases h

theorem limbs_lt : ∀ (k n : Nat), n ≤ k → ∀ d ∈ limbs n, d < base9
  | 0, n, h, d, hd => by
    obtain rfl : n = 0 := by omega
    cases hd
  | k + 1, n, h, d, hd => by
    by_cases h0 : n = 0
    · subst h0; cases hd
    · rw [limbs_pos h0] at hd
      rcases List.mem_cons.1 hd with rfl | hd
      · unfold base9; omega
      · exact limbs_lt k (n / base9) (by unfold base9; omega) d hd

theorem limbs_all (n : Nat) : ∀ d ∈ limbs n, d < base9 := limbs_lt n n (Nat.le_refl _)

theorem valD_limbs : ∀ (k n : Nat), n ≤ k → valD (limbs n) = n
  | 0, n, h => by
    obtain rfl : n = 0 := by omega
    rfl
  | k + 1, n, h => by
    by_cases h0 : n = 0
    · subst h0; rfl
    · rw [limbs_pos h0, valD, valD_limbs k (n / base9) (by unfold base9; omega)]
      unfold base9; omega

theorem limbs_val (n : Nat) : valD (limbs n) = n := valD_limbs n n (Nat.le_refl _)

theorem trimD_limbs : ∀ l : List Nat, (∀ d ∈ l, d < base9) → trimD l = limbs (valD l)
  | [], _ => rfl
  | d :: l, h => by
    have ih := trimD_limbs l (fun x hx => h x (List.mem_cons_of_mem _ hx))
    have hd := h d (List.mem_cons_self ..)
    unfold trimD valD
    by_cases h0 : valD l = 0
    · have e : trimD l = [] := by rw [ih, h0]; rfl
      rw [e, h0]
      by_cases hz : d = 0
      · rw [if_pos ⟨rfl, hz⟩, hz]; rfl
      · rw [if_neg (fun h => hz h.2), Nat.mul_zero, Nat.add_zero, limbs_small hd hz]
    · rw [if_neg (fun h => h0 (limbs_nil (by rw [← ih]; exact h.1))), limbs_mul d _ hd h0, ih]

theorem carryL_lt : ∀ (l : List Nat) (c : Nat), ∀ d ∈ carryL c l, d < base9
  | [], c, d, h => limbs_all c d h
  | x :: l, c, d, h => by
    rcases List.mem_cons.1 h with rfl | h
    · unfold base9; omega
    · exact carryL_lt l _ d h

theorem carryL_val : ∀ (l : List Nat) (c : Nat), valD (carryL c l) = c + valD l
  | [], c => by rw [carryL, limbs_val]; rfl
  | x :: l, c => by
    rw [carryL, valD, carryL_val l, valD]
    unfold base9; omega

theorem carry_trim (l : List Nat) : trimD (carryL 0 l) = limbs (valD l) := by
  rw [trimD_limbs _ (carryL_lt l 0), carryL_val, Nat.zero_add]

theorem trimD_snoc : ∀ (l : List Nat) (d : Nat), trimD (l ++ [d]) = if d = 0 then trimD l else l ++ [d]
  | [], d => by
    by_cases h : d = 0
    · subst h; rfl
    · simp [trimD, h]
  | x :: l, d => by
    rw [List.cons_append]
    unfold trimD
    rw [trimD_snoc l d]
    by_cases h : d = 0
    · rw [if_pos h, if_pos h]
    · rw [if_neg h, if_neg h, if_neg (fun x => by simp at x)]

end Go.Proofs.YtmcinpeplkkpfaaGreatDoor

namespace Go.Proofs.YtmcinpeplkkpfaaGreatDoor
open Go.RowKit
set_option linter.unusedVariables false
def d64U : List Nat → U | [] => .nil | d :: l => .int .u64 d (d64U l)

theorem rep_d64 {D : Nat → Prop} {w : World} : ∀ {ds : List Nat} {xs : List Value}, Rep D w (d64U ds) xs ↔ xs = ds.map (fun d => .int .u64 (d : Int))
  | [], xs => Iff.rfl
  | d :: l, xs => by
    simp only [d64U, Rep, List.map_cons]
    constructor
    · rintro ⟨xs', rfl, h⟩; rw [rep_d64.1 h]
    · rintro rfl; exact ⟨_, rfl, rep_d64.2 rfl⟩

theorem rep_digs {D : Nat → Prop} {w : World} : ∀ {ds : List Nat} {xs : List Value}, Rep D w (digsU ds) xs ↔ xs = ds.map (fun d => .int .u32 (d : Int))
  | [], xs => Iff.rfl
  | d :: l, xs => by
    simp only [digsU, Rep, List.map_cons]
    constructor
    · rintro ⟨xs', rfl, h⟩; rw [rep_digs.1 h]
    · rintro rfl; exact ⟨_, rfl, rep_digs.2 rfl⟩

theorem sl64_cells {D : Nat → Prop} {w : World} {v : Value} {ds : List Nat} (h : SlU D w v ds.length (d64U ds)) :
    ∃ a cap b off, v = .slice a ds.length cap ∧ ds.length ≤ cap ∧ cap ≤ maxLen ∧ (0 < ds.length → a = some ⟨b, off, none⟩ ∧ D b) ∧ ∀ k (hk : k < ds.length), w.cell? ⟨b, off + k, none⟩ = some (.int .u64 (ds[k] : Int)) := by
  obtain ⟨ys, hr, a, cap, rfl, h1, h2, _, h3⟩ := h
  rw [rep_d64] at hr
  rcases h3 with h3 | ⟨b, off, rfl, hD, hc⟩
  · have : ds = [] := by subst hr; simpa using h3
    subst this
    exact ⟨a, cap, 0, 0, rfl, h1, h2, fun h => by simp at h, fun k hk => by simp at hk⟩
  · exact ⟨_, cap, b, off, rfl, h1, h2, fun _ => ⟨rfl, hD⟩, fun k hk => hc k _ (by rw [hr]; simp [hk])⟩

theorem sl32_cells {D : Nat → Prop} {w : World} {v : Value} {ds : List Nat} (h : SlU D w v ds.length (digsU ds)) :
    ∃ a cap b off, v = .slice a ds.length cap ∧ ds.length ≤ cap ∧ cap ≤ maxLen ∧ (0 < ds.length → a = some ⟨b, off, none⟩ ∧ D b) ∧ ∀ k (hk : k < ds.length), w.cell? ⟨b, off + k, none⟩ = some (.int .u32 (ds[k] : Int)) := by
  obtain ⟨ys, hr, a, cap, rfl, h1, h2, _, h3⟩ := h
  rw [rep_digs] at hr
  rcases h3 with h3 | ⟨b, off, rfl, hD, hc⟩
  · have : ds = [] := by subst hr; simpa using h3
    subst this
    exact ⟨a, cap, 0, 0, rfl, h1, h2, fun h => by simp at h, fun k hk => by simp at hk⟩
  · exact ⟨_, cap, b, off, rfl, h1, h2, fun _ => ⟨rfl, hD⟩, fun k hk => hc k _ (by rw [hr]; simp [hk])⟩

theorem sl64_init {D : Nat → Prop} {w : World} {a : Option Addr} {n cap : Nat} {l : List Nat} {d : Nat} (h : SlU D w (.slice a n cap) (l ++ [d]).length (d64U (l ++ [d]))) : SlU D w (.slice a l.length cap) l.length (d64U l) := by
  obtain ⟨ys, hr, a', cap', e, h1, h2, h0, h3⟩ := h
  cases e
  rw [rep_d64] at hr
  refine ⟨_, rep_d64.2 rfl, a, cap, rfl, by simp at h1; omega, h2, h0, ?_⟩
  rcases h3 with h3 | ⟨b, off, rfl, hD, hc⟩
  · rw [hr] at h3; simp at h3
  · exact .inr ⟨b, off, rfl, hD, fun i x hi => hc i x (by rw [hr, List.map_append]; rw [List.getElem?_append_left (by have := (List.getElem?_eq_some_iff.1 hi).1; simpa using this)]; exact hi)⟩

theorem at_any {D : Nat → Prop} {ds : List Nat} {v : Value} (k : Nat) (w : World) (h : SlU D w v ds.length (d64U ds)) (hk : k ≤ 1000000000000) :
    Calls Tryz.prog 240 #[v, .int .i64 k] w fun e w' => e = .returned (.int .u64 ((ds.getD k 0 : Nat) : Int)) ∧ w = w' := by
  obtain ⟨a, cap, b, off, rfl, h1, h2, h3, h4⟩ := sl64_cells h
  unfold maxLen at h2
  by_cases hlt : k < ds.length
  · obtain ⟨rfl, _⟩ := h3 (by omega)
    have hc := h4 k hlt
    have k0 : (0 : Int) ≤ (k : Int) := by omega
    have k1 : (k : Int) < (ds.length : Int) := by omega
    have e : ds.getD k 0 = ds[k] := by simp [hlt]
    rw [e]
    clear h4 e
    generalize ds[k] = x at *
    go_enter Tryz.func240, Tryz.ntmps240
    go_wp2_with fail
    go_ret
    exact ⟨rfl, rfl⟩
  · have k0 : (0 : Int) ≤ (k : Int) := by omega
    have kd : decide ((k : Int) < (ds.length : Int)) = false := by simp; omega
    have e : ds.getD k 0 = 0 := by simp [List.getD, List.getElem?_eq_none (by omega : ds.length ≤ k)]
    rw [e]
    go_enter Tryz.func240, Tryz.ntmps240
    go_wp2_with fail
    go_ret
    exact ⟨rfl, rfl⟩

theorem top_any {D : Nat → Prop} {l : List Nat} {d : Nat} {v : Value} (w : World) (h : SlU D w v (l ++ [d]).length (d64U (l ++ [d]))) (hl : l.length ≤ 100000000000) :
    Calls Tryz.prog 241 #[v] w fun e w' => e = .returned (.int .u64 (d : Int)) ∧ w = w' := by
  have ha := Lib.hid (at_any (l.length) w h (by omega))
  obtain ⟨a, cap, b, off, rfl, h1, h2, h3, h4⟩ := sl64_cells h
  unfold maxLen at h2
  have e : (l ++ [d]).getD l.length 0 = d := by simp
  rw [e] at ha
  have hz : (l ++ [d]).length = l.length + 1 := by simp
  have hz1 : l.length + 1 ≤ cap := by omega
  rw [hz] at ha ⊢
  clear h h1 h3 h4 e hz
  go_enter Tryz.func241, Tryz.ntmps241
  go_wp2_with fail
  refine ha.out.mono ?_
  rintro e w' ⟨rfl, rfl⟩
  go_wp2_with fail
  go_ret
  exact ⟨rfl, rfl⟩

end Go.Proofs.YtmcinpeplkkpfaaGreatDoor

namespace Go.Proofs.YtmcinpeplkkpfaaGreatDoor
open Go.RowKit
set_option linter.unusedVariables false
theorem carry_step (c k : Nat) (ds : List Nat) (h : k < ds.length ∨ 0 < c) :
    carryL c (ds.drop k) = (c + ds.getD k 0) % 1000000000 :: carryL ((c + ds.getD k 0) / 1000000000) (ds.drop (k + 1)) := by
  by_cases hk : k < ds.length
  · rw [List.drop_eq_getElem_cons hk, carryL]
    have e : ds.getD k 0 = ds[k] := by simp [hk]
    rw [e]; rfl
  · have hc : 0 < c := by rcases h with h | h; exact absurd h hk; exact h
    rw [List.drop_of_length_le (by omega), List.drop_of_length_le (by omega), carryL, carryL]
    have e : ds.getD k 0 = 0 := by simp [List.getD, List.getElem?_eq_none (by omega : ds.length ≤ k)]
    rw [e, Nat.add_zero, limbs_pos (by omega)]; rfl

theorem carry_end (c k : Nat) (ds : List Nat) (h1 : ds.length ≤ k) (h2 : c = 0) : carryL c (ds.drop k) = [] := by
  subst h2; rw [List.drop_of_length_le h1, carryL]; rfl

theorem eltU64 : Elt Tryz.prog 345 327 1 8 := elt_of Tryz.underlying345 (by kernel_rfl) (by decide)

theorem infoU64 : (Tryz.prog.info? 327).map (fun i => (i.zero, i.size, i.bytes)) = some (some (.int .u64 0), 1, 8) := by kernel_rfl

def CarryInv (ds : List Nat) (c k : Nat) (out : List Nat) : Prop :=
  carryL 0 ds = out ++ carryL c (ds.drop k) ∧ out.length = k ∧ ((k ≤ ds.length ∧ c ≤ 68719476736) ∨ (ds.length ≤ k ∧ k + c ≤ ds.length + 68719476736))

set_option maxRecDepth 100000 in
set_option maxHeartbeats 1000000 in
theorem carried_any {D : Nat → Prop} {ds : List Nat} {v : Value} (w : World) (h : SlU D w v ds.length (d64U ds)) (hds : ∀ k, ds.getD k 0 ≤ 4611686018427387904) (hlen : ds.length ≤ 1000000000) :
    Calls Tryz.prog 222 #[v] w fun e w' => Ext (fun _ => False) w w' ∧ ∃ v', e = .returned (.agg #[v']) ∧ SlU (fun b => w.heap.size ≤ b) w' v' (limbs (valD ds)).length (d64U (limbs (valD ds))) := by
  have hs0 : SlU (fun b => b < w.heap.size) w v ds.length (d64U ds) := h.mono (fun _ _ h => h)
  clear h
  have HS := Lib.hid hs0
  have HD := Lib.hid hds
  obtain ⟨a, cap, rfl, h1, h2⟩ := hs0.shape
  unfold maxLen at h2
  clear hs0 hds
  obtain ⟨i0, hi, hz0, hz1, hz2⟩ := info_parts infoU64
  go_enter Tryz.func222, Tryz.ntmps222
  have hx0 := (Ext.refl (fun _ => False) w).alloc (.cells #[.slice none 0 0] 349)
  have hb0 := Blk.new w #[.slice none 0 0] 349
  go_wp2_with (at_make; refine wpList_make_own _ rfl _ _ 345 rfl (w.heap.size + 1) 327 i0 (.int .u64 0) 1 Tryz.underlying345 hi hz0 hz1 .i64 .i64 _ (ds.length + 2) rfl rfl (by omega) (by rw [hz2]; omega) (by unfold maxLen; omega) (by simp) ?_; intro w1 hown hgrow)
  have hx1 := hx0.grown hgrow (fun _ h => by cases h)
  have hb1 : Blk w1 w.heap.size #[.slice none 0 0] 349 := (hgrow.block _ hb0.lt (by simp)).trans hb0
  have hy1 : (w.alloc (.cells #[.slice none 0 0] 349)).heap.size = w.heap.size + 1 := by simp
  rw [hy1] at hown
  have HOWN := Lib.hid hown
  clear hown hgrow hy1 hx0 hb0 hi hz0 hz1 hz2
  go_loopg [3, 4, 5] (1099511627776 * ds.length) (fun q v cv kv wr => ∃ c k : Nat, cv = .int .u64 (c : Int) ∧ kv = .int .i64 (k : Int) ∧ q = 1099511627776 * (ds.length - k) + c ∧ k ≤ 100000000000 ∧ c ≤ 68719476736 ∧ Hid (Ext (fun _ => False) w wr) ∧ Hid (Blk wr w.heap.size #[.slice none 0 0] 349) ∧
    Hid (∃ out, CarryInv ds c k out ∧ wr.ownsRow (w.heap.size + 1) 327 1 v out.length (out.map (fun d : Nat => Value.int .u64 (d : Int)))))
  case atStart => exact ⟨0, 0, rfl, rfl, by omega, by omega, by omega, Lib.hid hx1, Lib.hid hb1, Lib.hid ⟨[], ⟨by simp, rfl, .inl ⟨by omega, by omega⟩⟩, HOWN.out⟩⟩
  case round =>
    obtain ⟨c, k, rfl, rfl, rfl, hk, hc, HX, HB, HI⟩ := hrel
    obtain ⟨out, hinv, hown⟩ := HI.out
    have HIN := Lib.hid hinv
    have HOW := Lib.hid hown
    clear hinv hown HI
    have hat := Lib.hid (at_any k wr (HS.out.ext HX.out (fun _ _ h => h)) (by omega))
    have hxb := HD.out k
    have hst := Lib.hid (carry_step c k ds)
    have hbw := HB.out.lt
    have hxz := Lib.hid (fun (h : ds.length ≤ k) => (by simp [List.getD, List.getElem?_eq_none h] : ds.getD k 0 = 0))
    generalize ds.getD k 0 = x at *
    have c0 : (0 : Int) ≤ (c : Int) := by omega
    have x0 : (0 : Int) ≤ (x : Int) := by omega
    have k0 : (0 : Int) ≤ (k : Int) := by omega
    have cx : (c : Int) + (x : Int) ≤ 9223372036854775807 := by omega
    have hol : out.length = k := HIN.out.2.1
    by_cases hkl : k < ds.length
    · have k1 : (k : Int) < (ds.length : Int) := by omega
      go_wp2_with fail
      refine hat.out.mono ?_
      rintro e w2 ⟨rfl, rfl⟩
      go_wp2_with ((at_builtin; refine wpList_append_one rfl (.tmp 25) (.tmp 28) 345 rfl (w.heap.size + 1) 327 1 8 eltU64 _ _ _ rfl HOW.out [.int .u64 (((c : Int) + (x : Int)) % 1000000000)] rfl rfl rfl (by unfold maxLen; omega) (by omega) (by omega) ?_; intro v' w6 hown6 hg6))
      go_roundg (1099511627776 * (ds.length - (k + 1)) + (c + x) / 1000000000)
      case measure => omega
      case rel =>
        have hlt2 := HOW.out.lt
        refine ⟨(c + x) / 1000000000, k + 1, congrArg (Value.int .u64) (by omega), congrArg (Value.int .i64) (by omega), rfl, by omega, by omega, Lib.hid (hg6.ext HX.out (fun b hb hlt => by have := (hlt2 b hb).1; omega)), Lib.hid (HB.out.grewF hg6 (fun e => by have := (hlt2 _ e).1; omega)), Lib.hid ⟨out ++ [(c + x) % 1000000000], ⟨?_, by simp [hol], .inl ⟨by omega, by omega⟩⟩, ?_⟩⟩
        · rw [HIN.out.1, hst.out (.inl hkl), List.append_assoc]; rfl
        · have e : ((((c + x) % 1000000000 : Nat)) : Int) = ((c : Int) + (x : Int)) % 1000000000 := by omega
          rw [List.map_append, List.length_append, List.map_cons, List.map_nil, e]; exact hown6
    · have k1 : (ds.length : Int) ≤ (k : Int) := by omega
      have kd : decide ((k : Int) < (ds.length : Int)) = false := by simp; omega
      by_cases hc0 : 0 < c
      · have c1 : (0 : Int) < (c : Int) := by omega
        go_wp2_with fail
        refine hat.out.mono ?_
        rintro e w2 ⟨rfl, rfl⟩
        have hx0 : x ≤ 0 := by have := hxz.out (by omega); omega
        have hk2 : k + c ≤ ds.length + 68719476736 := by rcases HIN.out.2.2 with h | h <;> omega
        go_wp2_with ((at_builtin; refine wpList_append_one rfl (.tmp 25) (.tmp 28) 345 rfl (w.heap.size + 1) 327 1 8 eltU64 _ _ _ rfl HOW.out [.int .u64 (((c : Int) + (x : Int)) % 1000000000)] rfl rfl rfl (by unfold maxLen; omega) (by omega) (by omega) ?_; intro v' w6 hown6 hg6))
        go_roundg (1099511627776 * (ds.length - (k + 1)) + (c + x) / 1000000000)
        case measure => omega
        case rel =>
          have hlt2 := HOW.out.lt
          refine ⟨(c + x) / 1000000000, k + 1, congrArg (Value.int .u64) (by omega), congrArg (Value.int .i64) (by omega), rfl, by omega, by omega, Lib.hid (hg6.ext HX.out (fun b hb hlt => by have := (hlt2 b hb).1; omega)), Lib.hid (HB.out.grewF hg6 (fun e => by have := (hlt2 _ e).1; omega)), Lib.hid ⟨out ++ [(c + x) % 1000000000], ⟨?_, by simp [hol], .inr ⟨by omega, by omega⟩⟩, ?_⟩⟩
          · rw [HIN.out.1, hst.out (.inr hc0), List.append_assoc]; rfl
          · have e : ((((c + x) % 1000000000 : Nat)) : Int) = ((c : Int) + (x : Int)) % 1000000000 := by omega
            rw [List.map_append, List.length_append, List.map_cons, List.map_nil, e]; exact hown6
      · have hc1 : (c : Int) ≤ 0 := by omega
        have hcd : decide ((0 : Int) < (c : Int)) = false := by simp; omega
        have hfin : carryL 0 ds = out := by rw [HIN.out.1, carry_end c k ds (by omega) (by omega), List.append_nil]
        have hsl := slU_owned HOW.out (u := d64U out) (rep_d64.2 rfl)
        have HF := Lib.hid hfin
        have HSL := Lib.hid hsl
        obtain ⟨a3, cap3, rfl, q1, q2⟩ := hsl.shape
        unfold maxLen at q2
        have hol2 : out.length ≤ 100000000000 := by omega
        clear hfin hsl hst hat hxz hxb x0 cx HOW HIN
        go_wp2_with fail
        go_loopg [3] out.length (fun q v wq => ∃ l : List Nat, ∃ a4 cap4, v = .slice a4 l.length cap4 ∧ q = l.length ∧ l.length ≤ cap4 ∧ cap4 ≤ 9223372036854775807 ∧ l.length ≤ 100000000000 ∧ Hid (trimD out = trimD l) ∧ Hid (wr = wq) ∧ Hid (SlU (fun b => w.heap.size + 1 ≤ b) wr (.slice a4 l.length cap4) l.length (d64U l)))
        case atStart => exact ⟨out, a3, cap3, rfl, rfl, q1, by omega, hol2, Lib.hid rfl, Lib.hid rfl, HSL⟩
        case round =>
          obtain ⟨l, a4, cap4, rfl, rfl, l1, l2, l3, HT, HW, HS4⟩ := hrel
          obtain rfl := HW.out
          have d0 := HB.out.cell 0
          have f0 := HB.out.frozen 0
          simp only [List.getElem?_toArray, List.getElem?_cons_zero] at d0
          have hfin : trimD l = l → l = limbs (valD ds) := fun e => by rw [← carry_trim, HF.out, HT.out, e]
          have HFI := Lib.hid hfin
          clear hfin
          rcases List.eq_nil_or_concat l with rfl | ⟨l', d, hl'⟩
          · have hl := Lib.hid (HFI.out rfl)
            simp only [List.length_nil] at *
            go_wp2_with fail
            refine bodyPost_ret (v := .agg #[.slice a4 0 cap4]) (by simp [results, Tryz.results222, go_sem, *]) rfl ⟨HX.out.setCell (p := ⟨w.heap.size, 0, none⟩) (fun h => by simp at h) _, _, rfl, ?_⟩
            rw [← hl.out]
            exact HS4.out.move (fun b hb _ => Below.heap_setCell _ _ _ _ (by have : w.heap.size + 1 ≤ b := hb; simp; omega)) (fun b hb _ => by have : w.heap.size + 1 ≤ b := hb; omega)
          · rw [List.concat_eq_append] at hl'
            subst hl'
            have hz : (l' ++ [d]).length = l'.length + 1 := by simp
            have HTP := Lib.hid (top_any (l := l') (d := d) wr HS4.out (by omega))
            have e1 : l'.length + 1 ≤ cap4 := by omega
            have e3 : l'.length + 1 ≤ 100000000000 := by omega
            rw [hz] at HTP ⊢
            clear l1 l3
            have p0 : (0 : Int) < (l'.length : Int) + 1 := by omega
            by_cases hd : d = 0
            · subst hd
              go_wp2_with fail
              refine HTP.out.mono ?_
              rintro e w5 ⟨rfl, rfl⟩
              go_wp2_with fail
              go_roundg l'.length
              case measure => omega
              case rel => exact ⟨l', a4, cap4, by simp, rfl, by omega, by omega, by omega, Lib.hid (by rw [HT.out, trimD_snoc]; simp), Lib.hid rfl, Lib.hid (sl64_init HS4.out)⟩
            · have hl := Lib.hid (HFI.out (by rw [trimD_snoc, if_neg hd]))
              have hdb : ((d : Int) == 0) = false := by simp; omega
              go_wp2_with fail
              refine HTP.out.mono ?_
              rintro e w5 ⟨rfl, rfl⟩
              go_wp2_with fail
              refine bodyPost_ret (v := .agg #[.slice a4 (l'.length + 1) cap4]) (by simp [results, Tryz.results222, go_sem, *]) rfl ⟨HX.out.setCell (p := ⟨w.heap.size, 0, none⟩) (fun h => by simp at h) _, _, rfl, ?_⟩
              rw [← hl.out]
              have := HS4.out
              rw [hz] at this
              rw [hz]
              exact this.move (fun b hb _ => Below.heap_setCell _ _ _ _ (by have : w.heap.size + 1 ≤ b := hb; simp; omega)) (fun b hb _ => by have : w.heap.size + 1 ≤ b := hb; omega)

end Go.Proofs.YtmcinpeplkkpfaaGreatDoor

namespace Go.Proofs.YtmcinpeplkkpfaaGreatDoor
open Go.RowKit
set_option linter.unusedVariables false
theorem eltU32 : Elt Tryz.prog 36 232 1 4 := elt_of Tryz.underlying36 (by kernel_rfl) (by decide)

set_option maxRecDepth 100000 in
set_option maxHeartbeats 1000000 in
theorem row_any64 {D : Nat → Prop} {ds : List Nat} {v : Value} (w : World) (h : SlU D w v ds.length (d64U ds)) (hds : ∀ d ∈ ds, d < 4294967296) (hlen : ds.length ≤ 100000000000) :
    Calls Tryz.prog 223 #[.agg #[v]] w fun e w' => Ext (fun _ => False) w w' ∧ ∃ v', e = .returned v' ∧ SlU (fun b => w.heap.size ≤ b) w' v' ds.length (digsU ds) := by
  have hs0 : SlU (fun b => b < w.heap.size) w v ds.length (d64U ds) := h.mono (fun _ _ h => h)
  clear h
  obtain ⟨a, cap, b, off, rfl, h1, h2, h3, h4⟩ := sl64_cells hs0
  unfold maxLen at h2
  have H3 := Lib.hid h3
  have H4 := Lib.hid h4
  have HD := Lib.hid hds
  clear hs0 h3 h4 hds
  have hx0 := (Ext.refl (fun _ => False) w).alloc (.cells #[.slice a ds.length cap] 349)
  have hy1 : (w.alloc (.cells #[.slice a ds.length cap] 349)).heap.size = w.heap.size + 1 := by simp
  go_enter Tryz.func223, Tryz.ntmps223
  go_wp2_with fail
  generalize w.alloc (.cells #[.slice a ds.length cap] 349) = w1 at *
  go_loopg [3, 9] ds.length (fun q v kv wr => ∃ k : Nat, kv = .int .i64 (k : Int) ∧ q = ds.length - k ∧ k ≤ ds.length ∧ Hid (Ext (fun _ => False) w wr) ∧ w.heap.size + 1 ≤ wr.heap.size ∧
    Hid (wr.ownsRow (w.heap.size + 1) 232 1 v k ((ds.take k).map (fun d : Nat => Value.int .u32 (d : Int)))))
  case atStart => exact ⟨0, rfl, by omega, by omega, Lib.hid hx0, by omega, Lib.hid ⟨by simp, .inl ⟨rfl, rfl⟩⟩⟩
  case round =>
    obtain ⟨k, rfl, rfl, hk, HX, hsz, HO⟩ := hrel
    clear hy1 hx0
    have k0 : (0 : Int) ≤ (k : Int) := by omega
    by_cases hlt : k < ds.length
    · have k1 : (k : Int) < (ds.length : Int) := by omega
      obtain ⟨rfl, hD⟩ := H3.out (by omega)
      have hc := HX.out.cellSome (H4.out k hlt) id
      have hb := HD.out ds[k] (List.getElem_mem hlt)
      have HT := Lib.hid (List.take_succ_eq_append_getElem hlt)
      generalize ds[k] = x at *
      have x0 : (0 : Int) ≤ (x : Int) := by omega
      have x1 : (x : Int) ≤ 4294967295 := by omega
      have hwr := Lib.hid (Int.emod_eq_of_lt (a := (x : Int)) (b := 4294967296) x0 (by omega))
      have hl2 := HO.out.lt
      clear hb x1
      go_wp2_with ((at_builtin; refine wpList_append_one rfl (.tmp 13) (.tmp 16) 36 rfl (w.heap.size + 1) 232 1 4 eltU32 _ _ _ rfl HO.out [.int .u32 ((x : Int) % 4294967296)] rfl rfl rfl (by unfold maxLen; omega) (by omega) (by omega) ?_; intro v' w6 hown6 hg6))
      go_roundg (ds.length - (k + 1))
      case measure => omega
      case rel =>
        refine ⟨k + 1, congrArg (Value.int .i64) (by omega), rfl, by omega, Lib.hid (hg6.ext HX.out (fun b hb hlt => by have := (hl2 b hb).1; omega)), by have := hg6.by_.size; omega, Lib.hid ?_⟩
        rw [HT.out, List.map_append, List.map_cons, List.map_nil]
        rw [hwr.out] at hown6
        exact hown6
    · obtain rfl : k = ds.length := by omega
      have kd : decide ((ds.length : Int) < (ds.length : Int)) = false := by simp
      have hsl := slU_owned HO.out (u := digsU ds) (rep_digs.2 (by rw [List.take_length]))
      have HSL := Lib.hid (hsl.mono (D' := fun b => w.heap.size ≤ b) (fun b hb _ => by have : w.heap.size + 1 ≤ b := hb; omega))
      clear hsl
      go_wp2_with fail
      go_ret
      exact ⟨HX.out, _, rfl, HSL.out⟩

end Go.Proofs.YtmcinpeplkkpfaaGreatDoor

namespace Go.Proofs.YtmcinpeplkkpfaaGreatDoor
open Go.RowKit
set_option linter.unusedVariables false
def partly (ds : List Nat) (k : Nat) : List Value := (ds.take k).map (fun d : Nat => Value.int .u64 (d : Int)) ++ List.replicate (ds.length - k) (.int .u64 0)

theorem partly_at (ds : List Nat) (k : Nat) (h : k < ds.length) : (partly ds k)[k]? = some (.int .u64 0) := by
  unfold partly
  have e : ((ds.take k).map (fun d : Nat => Value.int .u64 (d : Int))).length = k := by simp; omega
  rw [List.getElem?_append_right (by omega), e, Nat.sub_self, List.getElem?_replicate]
  rw [if_pos (by omega)]

theorem partly_set (ds : List Nat) (k : Nat) (h : k < ds.length) : (partly ds k).toArray.setIfInBounds k (.int .u64 (ds[k] : Int)) = (partly ds (k + 1)).toArray := by
  apply Array.ext'
  simp only [Array.toList_setIfInBounds]
  unfold partly
  rw [List.set_append_right _ _ (by simp; omega), List.take_succ_eq_append_getElem h, List.map_append, List.append_assoc]
  congr 1
  have e : ds.length - k = (ds.length - (k + 1)) + 1 := by omega
  have e2 : k - ((ds.take k).map (fun d : Nat => Value.int .u64 (d : Int))).length = 0 := by simp; omega
  rw [e, e2, List.replicate_succ]
  rfl

set_option maxRecDepth 100000 in
set_option maxHeartbeats 1000000 in
theorem of_any {D : Nat → Prop} {ds : List Nat} {v : Value} (w : World) (h : SlU D w v ds.length (digsU ds)) (hds : ∀ k, ds.getD k 0 ≤ 4294967295) (hlen : ds.length ≤ 1000000000) :
    Calls Tryz.prog 242 #[v] w fun e w' => Ext (fun _ => False) w w' ∧ ∃ v', e = .returned (.agg #[v']) ∧ SlU (fun b => w.heap.size ≤ b) w' v' (limbs (valD ds)).length (d64U (limbs (valD ds))) := by
  have hs0 : SlU (fun b => b < w.heap.size) w v ds.length (digsU ds) := h.mono (fun _ _ h => h)
  clear h
  obtain ⟨a, cap, b, off, rfl, h1, h2, h3, h4⟩ := sl32_cells hs0
  unfold maxLen at h2
  have H3 := Lib.hid h3
  have H4 := Lib.hid h4
  have HD := Lib.hid hds
  clear hs0 h3 h4 hds
  obtain ⟨i0, hi, hz0, hz1, hz2⟩ := info_parts infoU64
  go_enter Tryz.func242, Tryz.ntmps242
  have hx0 := (Ext.refl (fun _ => False) w).alloc (.cells #[.slice none 0 0] 349)
  have hb0 := Blk.new w #[.slice none 0 0] 349
  go_wp2_with (at_make; refine wpList_make_full _ rfl _ _ 345 rfl (w.heap.size + 1) 327 i0 (.int .u64 0) 1 Tryz.underlying345 hi hz0 hz1 .i64 .i64 _ _ ds.length rfl rfl rfl rfl (by rw [hz2]; omega) (by unfold maxLen; omega) (by simp) ?_; intro w1 hown hgrow)
  have hx1 := hx0.grown hgrow (fun _ h => by cases h)
  have hb1 : Blk w1 w.heap.size #[.slice none 0 0] 349 := (hgrow.block _ hb0.lt (by simp)).trans hb0
  have hy1 : (w.alloc (.cells #[.slice none 0 0] 349)).heap.size = w.heap.size + 1 := by simp
  rw [hy1] at hown
  have hblk : Blk w1 (w.heap.size + 1) (partly ds 0).toArray 327 := by
    rcases hown.2 with ⟨h, _⟩ | ⟨g, cap2, cur, e, hb, hg, hn, hm, hs, ht⟩
    · cases h
    · cases e
      have : cur = (partly ds 0).toArray := by
        apply Array.ext'
        have ht' : List.take (ds.length * 1) cur.toList = List.replicate (ds.length * 1) (.int .u64 0) := ht.trans (toList_madeCells_one _ _)
        rw [List.take_of_length_le (by simp; omega)] at ht'
        simp [partly, ht']
      rw [← this]; exact hg
  have HBLK := Lib.hid hblk
  clear hown hgrow hy1 hx0 hb0 hi hz0 hz1 hz2 hblk
  go_loopg [11] ds.length (fun q kv wr => ∃ k : Nat, kv = .int .i64 (k : Int) ∧ q = ds.length - k ∧ k ≤ ds.length ∧ Hid (Ext (fun _ => False) w wr) ∧ Hid (Blk wr w.heap.size #[.slice none 0 0] 349) ∧ Hid (Blk wr (w.heap.size + 1) (partly ds k).toArray 327))
  case atStart => exact ⟨0, rfl, by omega, by omega, Lib.hid hx1, Lib.hid hb1, HBLK⟩
  case round =>
    obtain ⟨k, rfl, rfl, hk, HX, HB, HP⟩ := hrel
    have k0 : (0 : Int) ≤ (k : Int) := by omega
    by_cases hlt : k < ds.length
    · have k1 : (k : Int) < (ds.length : Int) := by omega
      obtain ⟨rfl, hD⟩ := H3.out (by omega)
      have hc := HX.out.cellSome (H4.out k hlt) id
      have hset := Lib.hid (partly_set ds k hlt)
      have hxb : ds[k] ≤ 4294967295 := by have := HD.out k; simpa [hlt] using this
      have p0 : wr.cell? ⟨w.heap.size + 1, k, none⟩ = some (.int .u64 0) := by rw [HP.out.cell k]; simpa using partly_at ds k hlt
      have p1 := HP.out.frozen k
      generalize ds[k] = x at *
      have x0 : (0 : Int) ≤ (x : Int) := by omega
      go_wp2_with fail
      go_roundg (ds.length - (k + 1))
      case measure => omega
      case rel =>
        refine ⟨k + 1, congrArg (Value.int .i64) (by omega), rfl, by omega, Lib.hid (HX.out.setCell (p := ⟨w.heap.size + 1, k, none⟩) (fun h => by simp at h; omega) _), Lib.hid (HB.out.setOther _ (by simp) _), Lib.hid ?_⟩
        have := HP.out.set k (.int .u64 (x : Int))
        rw [hset.out] at this
        exact this
    · obtain rfl : k = ds.length := by omega
      have hpart : partly ds ds.length = ds.map (fun d : Nat => Value.int .u64 (d : Int)) := by simp [partly]
      have hb := HP.out
      rw [hpart] at hb
      have hsl : SlU (fun b => b = w.heap.size + 1) wr (.slice (some ⟨w.heap.size + 1, 0, none⟩) ds.length ds.length) ds.length (d64U ds) :=
        slU_new hb (rep_d64.2 rfl) rfl (by unfold maxLen; omega)
      have HC := Lib.hid (carried_any wr hsl (fun k => Nat.le_trans (HD.out k) (by decide)) hlen)
      clear hb hpart hsl
      go_wp2_with fail
      refine HC.out.mono ?_
      rintro e w5 ⟨hx5, v5, rfl, hsl5⟩
      obtain ⟨a5, cap5, rfl, _⟩ := hsl5.shape
      have hb5 := HB.out.ext hx5 id
      have c5 := hb5.cell 0
      have f5 := hb5.frozen 0
      simp only [List.getElem?_toArray, List.getElem?_cons_zero] at c5
      have HX5 := Lib.hid (HX.out.trans' hx5)
      have hlw := HP.out.lt
      clear hx5 HC
      go_wp2_with fail
      refine bodyPost_ret (v := .agg #[.slice a5 (limbs (valD ds)).length cap5]) (by simp [results, Tryz.results242, go_sem, *]) rfl ⟨HX5.out.setCell (p := ⟨w.heap.size, 0, none⟩) (fun h => by simp at h) _, _, rfl, ?_⟩
      exact hsl5.move (fun b hb _ => Below.heap_setCell _ _ _ _ (by have : wr.heap.size ≤ b := hb; simp; omega)) (fun b hb _ => by have : wr.heap.size ≤ b := hb; omega)

theorem trim_any {D : Nat → Prop} {ds : List Nat} {v : Value} (w : World) (h : SlU D w v ds.length (digsU ds)) (hds : ∀ k, ds.getD k 0 ≤ 4294967295) (hlen : ds.length ≤ 1000000000) (hlim : (limbs (valD ds)).length ≤ 100000000000) :
    Calls Tryz.prog 224 #[v] w fun e w' => Ext (fun _ => False) w w' ∧ ∃ v', e = .returned v' ∧ SlU (fun b => w.heap.size ≤ b) w' v' (limbs (valD ds)).length (digsU (limbs (valD ds))) := by
  have HO := Lib.hid (of_any w h hds hlen)
  obtain ⟨a, cap, rfl, _⟩ := h.shape
  go_enter Tryz.func224, Tryz.ntmps224
  go_wp2_with fail
  refine HO.out.mono ?_
  rintro e w1 ⟨hx1, v1, rfl, hs1⟩
  have HR := Lib.hid (row_any64 w1 hs1 (fun d hd => Nat.lt_of_lt_of_le (limbs_all _ d hd) (by decide)) hlim)
  obtain ⟨a1, cap1, rfl, _⟩ := hs1.shape
  have HX := Lib.hid hx1
  clear hx1 hs1 HO
  go_wp2_with fail
  refine HR.out.mono ?_
  rintro e w2 ⟨hx2, v2, rfl, hs2⟩
  obtain ⟨a2, cap2, rfl, _⟩ := hs2.shape
  have HX2 := Lib.hid (HX.out.trans' hx2)
  have HS2 := Lib.hid (hs2.mono (D' := fun b => w.heap.size ≤ b) (fun b hb _ => Nat.le_trans HX.out.size hb))
  clear hx2 hs2 HR
  go_wp2_with fail
  go_ret
  exact ⟨HX2.out, _, rfl, HS2.out⟩

end Go.Proofs.YtmcinpeplkkpfaaGreatDoor
