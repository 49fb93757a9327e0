/- Texts put together by wip/shake.py: PWord, PFun, PForm: the walks and the laws that the claim's last theorem rests on. -/
import Derived.Test.YtmcinpeplkkpfaaGreatDoorZ13
import Derived.MapKept
import Derived.Carry
namespace Go.Proofs.YtmcinpeplkkpfaaGreatDoor
open Go.RowKit
set_option linter.unusedVariables false
def sets (w : World) (b : Nat) : Nat → List Value → World
  | _, [] => w
  | i, x :: xs => sets (w.setCell ⟨b, i, none⟩ x) b (i + 1) xs

theorem sets_ext {M : Nat → Prop} {a : World} {b : Nat} (hp : b < a.heap.size → M b) : ∀ (xs : List Value) (i : Nat) (w : World), Ext M a w → Ext M a (sets w b i xs)
  | [], _, _, h => h
  | x :: xs, i, w, h => sets_ext hp xs (i + 1) _ (h.setCell (p := ⟨b, i, none⟩) hp x)

theorem sets_blk {b b' : Nat} {cs : Array Value} {t : TypeId} (hb : b ≠ b') : ∀ (xs : List Value) (i : Nat) (w : World), Blk w b' cs t → Blk (sets w b i xs) b' cs t
  | [], _, _, h => h
  | x :: xs, i, w, h => sets_blk hb xs (i + 1) _ (h.setOther ⟨b, i, none⟩ hb x)

theorem sets_rep {D : Nat → Prop} {b : Nat} {u : U} {ys : List Value} (hb : ¬ D b) : ∀ (xs : List Value) (i : Nat) (w : World), Rep D w u ys → Rep D (sets w b i xs) u ys
  | [], _, _, h => h
  | x :: xs, i, w, h => sets_rep hb xs (i + 1) _ (h.setOther ⟨b, i, none⟩ hb x)

theorem Rep.alloc {D : Nat → Prop} {w : World} {u : U} {xs : List Value} (h : Rep D w u xs) (o : Obj) : Rep D (w.alloc o) u xs := h.ext (M := fun _ => False) ((Ext.refl _ _).alloc o) (fun _ _ h => h)

def wordR (o : Option ZI) (wd : ByteArray) (r : Bool) (p : Int) : RR Tm := match o with
  | some z => .ok (.mk 2 ByteArray.empty z [])
  | none => if wIs wd [116, 114, 117, 101] then .ok (.mk 3 ByteArray.empty .zero []) else if wIs wd [102, 97, 108, 115, 101] then .ok (.mk 4 ByteArray.empty .zero []) else
    match nameS wd r p with
    | .ok n => .ok (.mk 1 n .zero [])
    | .error e => .error e

theorem wordS_eq (wd : ByteArray) (r : Bool) (p : Int) : wordS wd r p = wordR (numberS wd r) wd r p := rfl

def atomR (o : Option ZI) (wd : ByteArray) (r : Bool) (p : Int) : RR Ao := match o with
  | some z => .ok ⟨2, ByteArray.empty, z, false⟩
  | none => if !r && (wIs wd [116, 114, 117, 101] || wIs wd [102, 97, 108, 115, 101]) then .ok ⟨3, ByteArray.empty, .zero, wIs wd [116, 114, 117, 101]⟩ else
    match nameS wd r p with
    | .ok n => .ok ⟨1, n, .zero, false⟩
    | .error e => .error e

theorem atomS_eq (wd : ByteArray) (r : Bool) (p : Int) : atomS wd r p = atomR (numberS wd r) wd r p := rfl

theorem wIs_iff (s : ByteArray) (l : List UInt8) : wIs s l = (s.toList == l) := by unfold wIs; rw [Lib.toList_data]

set_option maxRecDepth 100000 in
set_option maxHeartbeats 2000000 in
theorem word_any {B : Nat} (wd : ByteArray) (kv : Value) (r : Bool) (p : Int) (fb : Nat) (k : F) (w : World) (hF : Fst w fb false 0) (hk : Sl (· < B) w kv k) (hs : wd.size ≤ maxLen) :
    Calls Tryz.prog 72 #[nodeV wd kv r p fb] w (RdPost fb (shpN 5) mkAgg encTm (wordS wd r p) w) := by
  have hname := fun w' (hx : Ext (fun _ => False) w w') => nodeName_any wd kv r p fb k w' (Fst.ext hF hx id) (hk.ext hx (fun _ _ h => h)) hs
  obtain ⟨a, cap, rfl, h1, h2⟩ := hk.shape
  have hx1 := (Ext.refl (fun _ => False) w).alloc (.cells #[.string wd, .slice a k.len cap, .bool r, .int .i64 p, .pointer (some ⟨fb, 0, none⟩)] 57)
  have hx2 := hx1.alloc (.cells #[.int .u8 0, .string ⟨#[]⟩, .bool false, .slice none 0 0, .slice none 0 0] 41)
  have hb2 := Blk.new (w.alloc (.cells #[.string wd, .slice a k.len cap, .bool r, .int .i64 p, .pointer (some ⟨fb, 0, none⟩)] 57)) #[.int .u8 0, .string ⟨#[]⟩, .bool false, .slice none 0 0, .slice none 0 0] 41
  have hn2 := (NodeIn.new w wd (.slice a k.len cap) r p fb).alloc (.cells #[.int .u8 0, .string ⟨#[]⟩, .bool false, .slice none 0 0, .slice none 0 0] 41)
  have hz : (w.alloc (.cells #[.string wd, .slice a k.len cap, .bool r, .int .i64 p, .pointer (some ⟨fb, 0, none⟩)] 57)).heap.size = w.heap.size + 1 := by simp
  have hz2 : ((w.alloc (.cells #[.string wd, .slice a k.len cap, .bool r, .int .i64 p, .pointer (some ⟨fb, 0, none⟩)] 57)).alloc (.cells #[.int .u8 0, .string ⟨#[]⟩, .bool false, .slice none 0 0, .slice none 0 0] 41)).heap.size = w.heap.size + 2 := by simp
  rw [hz] at hb2
  have hF2 := Fst.ext hF hx2 id
  have HP := number_any wd (.slice a k.len cap) r p fb k _ (hk.ext hx2 (fun _ _ h => h))
  have hfl := Blk.lt hF
  rw [wordS_eq]
  generalize numberS wd r = o at *
  have HPP := Lib.hid HP
  have HNM := Lib.hid hname
  clear HP hz hk h1 h2 hname
  obtain ⟨res, hres0⟩ : ∃ res, res = (wordR o wd r p) := ⟨_, rfl⟩
  rw [← hres0]
  have HRES := Lib.hid hres0
  clear hres0
  unfold nodeV at *
  go_enter Tryz.func72, Tryz.ntmps72
  go_wp2_with fail
  refine HPP.out.mono ?_
  intro e w3 hpost
  obtain ⟨b, a3, n3, cap3, rfl, hx3, hres⟩ := hpost.sl
  rw [hz2] at hres
  have hb3 := hb2.ext hx3 id
  have hn3 := NodeIn.ext hn2 hx3 id
  have hF3 := Fst.ext hF2 hx3 id
  have hx4 := hx2.trans' hx3
  have hs3 := hx3.size
  rw [hz2] at hs3
  have l0 : w.heap.size < w3.heap.size := by omega
  have l1 : w.heap.size + 1 < w3.heap.size := by omega
  have c0 := hb3.cell 0
  have c1 := hb3.cell 1
  have c2 := hb3.cell 2
  have c3 := hb3.cell 3
  have c4 := hb3.cell 4
  have f0 := hb3.frozen 0
  have f1 := hb3.frozen 1
  have f2 := hb3.frozen 2
  have f3 := hb3.frozen 3
  have f4 := hb3.frozen 4
  simp only [List.getElem?_toArray, List.getElem?_cons_zero, List.getElem?_cons_succ] at c0 c1 c2 c3 c4
  obtain ⟨n0, n1, n2, n3', n4⟩ := hn3.cells
  clear hx1 hx2 hb2 hn2 hF2 hx3 hpost hF HPP hz2
  have HX4 := Lib.hid hx4
  have HR := Lib.hid hres
  have HF3 := Lib.hid hF3
  clear hx4 hres hF3
  cases o with
  | some z =>
    have HRS := Lib.hid HRES.out
    rw [Option.isSome_some]
    go_wp2_with fail
    refine bodyPost_ret (v := .agg #[.int .u8 2, .string ⟨#[]⟩, .bool b, .slice a3 n3 cap3, .slice none 0 0]) (by simp [results, Tryz.results72, go_sem, *]) rfl ⟨?_, [.int .u8 2, .string ⟨#[]⟩, .bool b, .slice a3 n3 cap3, .slice none 0 0], rfl, ⟨rfl, by simp [Value.oneCell']⟩, ?_⟩
    · exact (((sets_ext (b := w.heap.size + 1) (fun h => by have : w.heap.size + 1 < w.heap.size := h; omega) [.int .u8 2, .string ⟨#[]⟩, .bool b, .slice a3 n3 cap3, .slice none 0 0] 0 _ HX4.out).alloc _).mono (fun _ _ h => h.elim))
    · rw [HRS.out]; exact ⟨(Blk.alloc (sets_blk (b := w.heap.size + 1) (by omega) [.int .u8 2, .string ⟨#[]⟩, .bool b, .slice a3 n3 cap3, .slice none 0 0] 0 _ HF3.out) _), ((sets_rep (b := w.heap.size + 1) (D := fun b => w.heap.size + 2 ≤ b) (by omega) [.int .u8 2, .string ⟨#[]⟩, .bool b, .slice a3 n3 cap3, .slice none 0 0] 0 _ (show Rep (fun b => w.heap.size + 2 ≤ b) w3 (encTm (.mk 2 ByteArray.empty z [])) [.int .u8 2, .string ⟨#[]⟩, .bool b, .slice a3 n3 cap3, .slice none 0 0] from (⟨_, rfl, _, rfl, by decide, HR.out.cells (u := .sl 0 .nil .nil) ⟨_, [], [], rfl, rfl, ⟨none, 0, rfl, Nat.le_refl _, Nat.zero_le _, fun _ => rfl, .inl rfl⟩, rfl⟩⟩))).alloc _).mono (fun b hb _ => by have : w.heap.size + 2 ≤ b := hb; omega)⟩
  | none =>
    rw [Option.isSome_none]
    cases ht : wIs wd [116, 114, 117, 101] with
    | true =>
      have HRS : Hid (res = .ok (.mk 3 ByteArray.empty .zero [])) := Lib.hid (by rw [HRES.out]; unfold wordR; rw [ht]; rfl)
      rw [wIs_iff] at ht
      have ht2 : wd.toList = [116, 114, 117, 101] := by simpa using ht
      go_wp2_with fail
      refine bodyPost_ret (v := .agg #[.int .u8 3, .string ⟨#[]⟩, .bool false, .slice none 0 0, .slice none 0 0]) (by simp [results, Tryz.results72, go_sem, *]) rfl ⟨?_, [.int .u8 3, .string ⟨#[]⟩, .bool false, .slice none 0 0, .slice none 0 0], rfl, ⟨rfl, by simp [Value.oneCell']⟩, ?_⟩
      · exact (((sets_ext (b := w.heap.size + 1) (fun h => by have : w.heap.size + 1 < w.heap.size := h; omega) [.int .u8 3, .string ⟨#[]⟩, .bool false, .slice none 0 0, .slice none 0 0] 0 _ HX4.out).alloc _).mono (fun _ _ h => h.elim))
      · rw [HRS.out]; exact ⟨(Blk.alloc (sets_blk (b := w.heap.size + 1) (by omega) [.int .u8 3, .string ⟨#[]⟩, .bool false, .slice none 0 0, .slice none 0 0] 0 _ HF3.out) _), ((sets_rep (b := w.heap.size + 1) (D := fun b => w.heap.size + 2 ≤ b) (by omega) [.int .u8 3, .string ⟨#[]⟩, .bool false, .slice none 0 0, .slice none 0 0] 0 _ (show Rep (fun b => w.heap.size + 2 ≤ b) w3 (encTm (.mk 3 ByteArray.empty .zero [])) [.int .u8 3, .string ⟨#[]⟩, .bool false, .slice none 0 0, .slice none 0 0] from (⟨_, rfl, _, rfl, by decide, zero_cells (u := .sl 0 .nil .nil) ⟨_, [], [], rfl, rfl, ⟨none, 0, rfl, Nat.le_refl _, Nat.zero_le _, fun _ => rfl, .inl rfl⟩, rfl⟩⟩))).alloc _).mono (fun b hb _ => by have : w.heap.size + 2 ≤ b := hb; omega)⟩
    | false =>
      have ht1 := ht
      rw [wIs_iff] at ht
      have ht2 : ¬ wd.toList = [116, 114, 117, 101] := by simpa using ht
      cases hf : wIs wd [102, 97, 108, 115, 101] with
      | true =>
        have HRS : Hid (res = .ok (.mk 4 ByteArray.empty .zero [])) := Lib.hid (by rw [HRES.out]; unfold wordR; rw [ht1, hf]; rfl)
        clear ht1
        rw [wIs_iff] at hf
        have hf2 : wd.toList = [102, 97, 108, 115, 101] := by simpa using hf
        go_wp2_with fail
        refine bodyPost_ret (v := .agg #[.int .u8 4, .string ⟨#[]⟩, .bool false, .slice none 0 0, .slice none 0 0]) (by simp [results, Tryz.results72, go_sem, *]) rfl ⟨?_, [.int .u8 4, .string ⟨#[]⟩, .bool false, .slice none 0 0, .slice none 0 0], rfl, ⟨rfl, by simp [Value.oneCell']⟩, ?_⟩
        · exact (((sets_ext (b := w.heap.size + 1) (fun h => by have : w.heap.size + 1 < w.heap.size := h; omega) [.int .u8 4, .string ⟨#[]⟩, .bool false, .slice none 0 0, .slice none 0 0] 0 _ HX4.out).alloc _).mono (fun _ _ h => h.elim))
        · rw [HRS.out]; exact ⟨(Blk.alloc (sets_blk (b := w.heap.size + 1) (by omega) [.int .u8 4, .string ⟨#[]⟩, .bool false, .slice none 0 0, .slice none 0 0] 0 _ HF3.out) _), ((sets_rep (b := w.heap.size + 1) (D := fun b => w.heap.size + 2 ≤ b) (by omega) [.int .u8 4, .string ⟨#[]⟩, .bool false, .slice none 0 0, .slice none 0 0] 0 _ (show Rep (fun b => w.heap.size + 2 ≤ b) w3 (encTm (.mk 4 ByteArray.empty .zero [])) [.int .u8 4, .string ⟨#[]⟩, .bool false, .slice none 0 0, .slice none 0 0] from (⟨_, rfl, _, rfl, by decide, zero_cells (u := .sl 0 .nil .nil) ⟨_, [], [], rfl, rfl, ⟨none, 0, rfl, Nat.le_refl _, Nat.zero_le _, fun _ => rfl, .inl rfl⟩, rfl⟩⟩))).alloc _).mono (fun b hb _ => by have : w.heap.size + 2 ≤ b := hb; omega)⟩
      | false =>
        have hrs : res = match nameS wd r p with | .ok n => .ok (.mk 1 n .zero []) | .error e => .error e := by rw [HRES.out]; unfold wordR; rw [ht1, hf]; rfl
        clear ht1
        rw [wIs_iff] at hf
        have hf2 : ¬ wd.toList = [102, 97, 108, 115, 101] := by simpa using hf
        have HRS0 := Lib.hid hrs
        clear hrs
        have hnm := HNM.out _ (HX4.out.alloc (.cells #[.bool b, .slice a3 n3 cap3] 38))
        have hsz4 : (w3.alloc (.cells #[.bool b, .slice a3 n3 cap3] 38)).heap.size = w3.heap.size + 1 := by simp
        have HNM2 := Lib.hid hnm
        clear hnm
        have HSZ4 := Lib.hid hsz4
        clear hsz4
        go_wp2_with fail
        refine HNM2.out.mono ?_
        rintro e w5 ⟨hx5, xs, rfl, ⟨s0, rfl⟩, hr5⟩
        simp only [mkOne]
        have HR5 := Lib.hid hr5
        clear hr5
        have hb5 := (hb3.alloc (.cells #[.bool b, .slice a3 n3 cap3] 38)).ext hx5 (by omega)
        have d0 := hb5.cell 0
        have d1 := hb5.cell 1
        have d2 := hb5.cell 2
        have d3 := hb5.cell 3
        have d4 := hb5.cell 4
        have k0 := hb5.frozen 0
        have k1 := hb5.frozen 1
        have k2 := hb5.frozen 2
        have k3 := hb5.frozen 3
        have k4 := hb5.frozen 4
        simp only [List.getElem?_toArray, List.getElem?_cons_zero, List.getElem?_cons_succ] at d0 d1 d2 d3 d4
        have HX5 := Lib.hid (((HX4.out.alloc (.cells #[.bool b, .slice a3 n3 cap3] 38)).mono (M' := fun i => i = fb) (fun _ _ h => h.elim)).trans' hx5)
        have hs5 := hx5.size
        clear c0 c1 c2 c3 c4 f0 f1 f2 f3 f4 n0 n1 n2 n3' n4 hx5 hb3 hb5 hn3
        go_wp2_with fail
        cases hn : nameS wd r p with
        | ok n =>
          have hr5 := HR5.out
          rw [hn] at hr5
          obtain ⟨hF5, xs', e5, hss, hnil⟩ := hr5
          cases e5
          have HF5 := Lib.hid hF5
          have HRS : Hid (res = .ok (.mk 1 s0 .zero [])) := Lib.hid (by rw [HRS0.out, hn])
          refine bodyPost_ret (v := .agg #[.int .u8 1, .string s0, .bool false, .slice none 0 0, .slice none 0 0]) (by simp [results, Tryz.results72, go_sem, *]) rfl ⟨?_, [.int .u8 1, .string s0, .bool false, .slice none 0 0, .slice none 0 0], rfl, ⟨rfl, by simp [Value.oneCell']⟩, ?_⟩
          · exact (sets_ext (b := w.heap.size + 1) (fun h => by have : w.heap.size + 1 < w.heap.size := h; omega) [.int .u8 1, .string s0, .bool false, .slice none 0 0, .slice none 0 0] 0 _ HX5.out)
          · rw [HRS.out]; exact ⟨(sets_blk (b := w.heap.size + 1) (by omega) [.int .u8 1, .string s0, .bool false, .slice none 0 0, .slice none 0 0] 0 _ HF5.out), (sets_rep (b := w.heap.size + 1) (D := fun b => w.heap.size + 2 ≤ b) (by omega) [.int .u8 1, .string s0, .bool false, .slice none 0 0, .slice none 0 0] 0 _ (show Rep (fun b => w.heap.size + 2 ≤ b) w5 (encTm (.mk 1 s0 .zero [])) [.int .u8 1, .string s0, .bool false, .slice none 0 0, .slice none 0 0] from (⟨_, rfl, _, rfl, hss, zero_cells (u := .sl 0 .nil .nil) ⟨_, [], [], rfl, rfl, ⟨none, 0, rfl, Nat.le_refl _, Nat.zero_le _, fun _ => rfl, .inl rfl⟩, rfl⟩⟩))).mono (fun b hb _ => by have : w.heap.size + 2 ≤ b := hb; omega)⟩
        | error q =>
          have hr5 := HR5.out
          rw [hn] at hr5
          have HF5 : Hid (Fst w5 fb true q) := Lib.hid hr5
          have HRS : Hid (res = .error q) := Lib.hid (by rw [HRS0.out, hn])
          refine bodyPost_ret (v := .agg #[.int .u8 1, .string s0, .bool false, .slice none 0 0, .slice none 0 0]) (by simp [results, Tryz.results72, go_sem, *]) rfl ⟨?_, [.int .u8 1, .string s0, .bool false, .slice none 0 0, .slice none 0 0], rfl, ⟨rfl, by simp [Value.oneCell']⟩, ?_⟩
          · exact (sets_ext (b := w.heap.size + 1) (fun h => by have : w.heap.size + 1 < w.heap.size := h; omega) [.int .u8 1, .string s0, .bool false, .slice none 0 0, .slice none 0 0] 0 _ HX5.out)
          · rw [HRS.out]; exact (sets_blk (b := w.heap.size + 1) (by omega) [.int .u8 1, .string s0, .bool false, .slice none 0 0, .slice none 0 0] 0 _ HF5.out)

set_option maxRecDepth 100000 in
set_option maxHeartbeats 2000000 in
theorem atom_any {B : Nat} (wd : ByteArray) (kv : Value) (r : Bool) (p : Int) (fb : Nat) (k : F) (w : World) (hF : Fst w fb false 0) (hk : Sl (· < B) w kv k) (hs : wd.size ≤ maxLen) :
    Calls Tryz.prog 137 #[nodeV wd kv r p fb] w (RdPost fb (shpN 5) mkAgg encAo (atomS wd r p) w) := by
  have hname := fun w' (hx : Ext (fun _ => False) w w') => nodeName_any wd kv r p fb k w' (Fst.ext hF hx id) (hk.ext hx (fun _ _ h => h)) hs
  obtain ⟨a, cap, rfl, h1, h2⟩ := hk.shape
  have hx1 := (Ext.refl (fun _ => False) w).alloc (.cells #[.string wd, .slice a k.len cap, .bool r, .int .i64 p, .pointer (some ⟨fb, 0, none⟩)] 57)
  have hx2 := hx1.alloc (.cells #[.int .u8 0, .string ⟨#[]⟩, .bool false, .slice none 0 0, .bool false] 122)
  have hb2 := Blk.new (w.alloc (.cells #[.string wd, .slice a k.len cap, .bool r, .int .i64 p, .pointer (some ⟨fb, 0, none⟩)] 57)) #[.int .u8 0, .string ⟨#[]⟩, .bool false, .slice none 0 0, .bool false] 122
  have hn2 := (NodeIn.new w wd (.slice a k.len cap) r p fb).alloc (.cells #[.int .u8 0, .string ⟨#[]⟩, .bool false, .slice none 0 0, .bool false] 122)
  have hz : (w.alloc (.cells #[.string wd, .slice a k.len cap, .bool r, .int .i64 p, .pointer (some ⟨fb, 0, none⟩)] 57)).heap.size = w.heap.size + 1 := by simp
  have hz2 : ((w.alloc (.cells #[.string wd, .slice a k.len cap, .bool r, .int .i64 p, .pointer (some ⟨fb, 0, none⟩)] 57)).alloc (.cells #[.int .u8 0, .string ⟨#[]⟩, .bool false, .slice none 0 0, .bool false] 122)).heap.size = w.heap.size + 2 := by simp
  rw [hz] at hb2
  have hF2 := Fst.ext hF hx2 id
  have HP := number_any wd (.slice a k.len cap) r p fb k _ (hk.ext hx2 (fun _ _ h => h))
  have hfl := Blk.lt hF
  rw [atomS_eq]
  generalize numberS wd r = o at *
  have HPP := Lib.hid HP
  have HNM := Lib.hid hname
  clear HP hz hk h1 h2 hname
  obtain ⟨res, hres0⟩ : ∃ res, res = (atomR o wd r p) := ⟨_, rfl⟩
  rw [← hres0]
  have HRES := Lib.hid hres0
  clear hres0
  unfold nodeV at *
  go_enter Tryz.func137, Tryz.ntmps137
  go_wp2_with fail
  refine HPP.out.mono ?_
  intro e w3 hpost
  obtain ⟨b, a3, n3, cap3, rfl, hx3, hres⟩ := hpost.sl
  rw [hz2] at hres
  have hb3 := hb2.ext hx3 id
  have hn3 := NodeIn.ext hn2 hx3 id
  have hF3 := Fst.ext hF2 hx3 id
  have hx4 := hx2.trans' hx3
  have hs3 := hx3.size
  rw [hz2] at hs3
  have l0 : w.heap.size < w3.heap.size := by omega
  have l1 : w.heap.size + 1 < w3.heap.size := by omega
  have c0 := hb3.cell 0
  have c1 := hb3.cell 1
  have c2 := hb3.cell 2
  have c3 := hb3.cell 3
  have c4 := hb3.cell 4
  have f0 := hb3.frozen 0
  have f1 := hb3.frozen 1
  have f2 := hb3.frozen 2
  have f3 := hb3.frozen 3
  have f4 := hb3.frozen 4
  simp only [List.getElem?_toArray, List.getElem?_cons_zero, List.getElem?_cons_succ] at c0 c1 c2 c3 c4
  obtain ⟨n0, n1, n2, n3', n4⟩ := hn3.cells
  clear hx1 hx2 hb2 hn2 hF2 hx3 hpost hF HPP hz2
  have HX4 := Lib.hid hx4
  have HR := Lib.hid hres
  have HF3 := Lib.hid hF3
  clear hx4 hres hF3
  cases o with
  | some z =>
    have HRS := Lib.hid HRES.out
    rw [Option.isSome_some]
    go_wp2_with fail
    refine bodyPost_ret (v := .agg #[.int .u8 2, .string ⟨#[]⟩, .bool b, .slice a3 n3 cap3, .bool false]) (by simp [results, Tryz.results137, go_sem, *]) rfl ⟨?_, [.int .u8 2, .string ⟨#[]⟩, .bool b, .slice a3 n3 cap3, .bool false], rfl, ⟨rfl, by simp [Value.oneCell']⟩, ?_⟩
    · exact (((sets_ext (b := w.heap.size + 1) (fun h => by have : w.heap.size + 1 < w.heap.size := h; omega) [.int .u8 2, .string ⟨#[]⟩, .bool b, .slice a3 n3 cap3, .bool false] 0 _ HX4.out).alloc _).mono (fun _ _ h => h.elim))
    · rw [HRS.out]; exact ⟨(Blk.alloc (sets_blk (b := w.heap.size + 1) (by omega) [.int .u8 2, .string ⟨#[]⟩, .bool b, .slice a3 n3 cap3, .bool false] 0 _ HF3.out) _), ((sets_rep (b := w.heap.size + 1) (D := fun b => w.heap.size + 2 ≤ b) (by omega) [.int .u8 2, .string ⟨#[]⟩, .bool b, .slice a3 n3 cap3, .bool false] 0 _ (show Rep (fun b => w.heap.size + 2 ≤ b) w3 (encAo ⟨2, ByteArray.empty, z, false⟩) [.int .u8 2, .string ⟨#[]⟩, .bool b, .slice a3 n3 cap3, .bool false] from (⟨_, rfl, _, rfl, Nat.zero_le _, HR.out.cells (u := .bool false .nil) ⟨_, rfl, rfl⟩⟩))).alloc _).mono (fun b hb _ => by have : w.heap.size + 2 ≤ b := hb; omega)⟩
  | none =>
    rw [Option.isSome_none]
    cases r with
    | true =>
      have hrs : res = match nameS wd true p with | .ok n => .ok ⟨1, n, .zero, false⟩ | .error e => .error e := HRES.out
      have HRS0 := Lib.hid hrs
      clear hrs
      have hnm := HNM.out _ (HX4.out.alloc (.cells #[.bool b, .slice a3 n3 cap3] 38))
      have HNM2 := Lib.hid hnm
      clear hnm
      go_wp2_with fail
      refine HNM2.out.mono ?_
      rintro e w5 ⟨hx5, xs, rfl, ⟨s0, rfl⟩, hr5⟩
      simp only [mkOne]
      have HR5 := Lib.hid hr5
      clear hr5
      have hb5 := (hb3.alloc (.cells #[.bool b, .slice a3 n3 cap3] 38)).ext hx5 (by omega)
      have d0 := hb5.cell 0
      have d1 := hb5.cell 1
      have d2 := hb5.cell 2
      have d3 := hb5.cell 3
      have d4 := hb5.cell 4
      have k0 := hb5.frozen 0
      have k1 := hb5.frozen 1
      have k2 := hb5.frozen 2
      have k3 := hb5.frozen 3
      have k4 := hb5.frozen 4
      simp only [List.getElem?_toArray, List.getElem?_cons_zero, List.getElem?_cons_succ] at d0 d1 d2 d3 d4
      have HX5 := Lib.hid (((HX4.out.alloc (.cells #[.bool b, .slice a3 n3 cap3] 38)).mono (M' := fun i => i = fb) (fun _ _ h => h.elim)).trans' hx5)
      have hs5 := hx5.size
      clear c0 c1 c2 c3 c4 f0 f1 f2 f3 f4 n0 n1 n2 n3' n4 hx5 hb3 hb5 hn3
      go_wp2_with fail
      cases hn : nameS wd true p with
      | ok n =>
        have hr5 := HR5.out
        rw [hn] at hr5
        obtain ⟨hF5, xs', e5, hss, hnil⟩ := hr5
        cases e5
        have HF5 := Lib.hid hF5
        have HRS : Hid (res = .ok ⟨1, s0, .zero, false⟩) := Lib.hid (by rw [HRS0.out, hn])
        refine bodyPost_ret (v := .agg #[.int .u8 1, .string s0, .bool false, .slice none 0 0, .bool false]) (by simp [results, Tryz.results137, go_sem, *]) rfl ⟨?_, [.int .u8 1, .string s0, .bool false, .slice none 0 0, .bool false], rfl, ⟨rfl, by simp [Value.oneCell']⟩, ?_⟩
        · exact (sets_ext (b := w.heap.size + 1) (fun h => by have : w.heap.size + 1 < w.heap.size := h; omega) [.int .u8 1, .string s0, .bool false, .slice none 0 0, .bool false] 0 _ HX5.out)
        · rw [HRS.out]; exact ⟨(sets_blk (b := w.heap.size + 1) (by omega) [.int .u8 1, .string s0, .bool false, .slice none 0 0, .bool false] 0 _ HF5.out), (sets_rep (b := w.heap.size + 1) (D := fun b => w.heap.size + 2 ≤ b) (by omega) [.int .u8 1, .string s0, .bool false, .slice none 0 0, .bool false] 0 _ (show Rep (fun b => w.heap.size + 2 ≤ b) w5 (encAo ⟨1, s0, .zero, false⟩) [.int .u8 1, .string s0, .bool false, .slice none 0 0, .bool false] from (⟨_, rfl, _, rfl, hss, zero_cells (u := .bool false .nil) ⟨_, rfl, rfl⟩⟩))).mono (fun b hb _ => by have : w.heap.size + 2 ≤ b := hb; omega)⟩
      | error q =>
        have hr5 := HR5.out
        rw [hn] at hr5
        have HF5 : Hid (Fst w5 fb true q) := Lib.hid hr5
        have HRS : Hid (res = .error q) := Lib.hid (by rw [HRS0.out, hn])
        refine bodyPost_ret (v := .agg #[.int .u8 1, .string s0, .bool false, .slice none 0 0, .bool false]) (by simp [results, Tryz.results137, go_sem, *]) rfl ⟨?_, [.int .u8 1, .string s0, .bool false, .slice none 0 0, .bool false], rfl, ⟨rfl, by simp [Value.oneCell']⟩, ?_⟩
        · exact (sets_ext (b := w.heap.size + 1) (fun h => by have : w.heap.size + 1 < w.heap.size := h; omega) [.int .u8 1, .string s0, .bool false, .slice none 0 0, .bool false] 0 _ HX5.out)
        · rw [HRS.out]; exact (sets_blk (b := w.heap.size + 1) (by omega) [.int .u8 1, .string s0, .bool false, .slice none 0 0, .bool false] 0 _ HF5.out)
    | false =>
      cases ht : wIs wd [116, 114, 117, 101] with
      | true =>
        have HRS : Hid (res = .ok ⟨3, ByteArray.empty, .zero, true⟩) := Lib.hid (by rw [HRES.out]; unfold atomR; rw [ht]; rfl)
        rw [wIs_iff] at ht
        have ht2 : wd.toList = [116, 114, 117, 101] := by simpa using ht
        go_wp2_with fail
        refine bodyPost_ret (v := .agg #[.int .u8 3, .string ⟨#[]⟩, .bool false, .slice none 0 0, .bool true]) (by simp [results, Tryz.results137, go_sem, *]) rfl ⟨?_, [.int .u8 3, .string ⟨#[]⟩, .bool false, .slice none 0 0, .bool true], rfl, ⟨rfl, by simp [Value.oneCell']⟩, ?_⟩
        · exact (((sets_ext (b := w.heap.size + 1) (fun h => by have : w.heap.size + 1 < w.heap.size := h; omega) [.int .u8 3, .string ⟨#[]⟩, .bool false, .slice none 0 0, .bool true] 0 _ HX4.out).alloc _).mono (fun _ _ h => h.elim))
        · rw [HRS.out]; exact ⟨(Blk.alloc (sets_blk (b := w.heap.size + 1) (by omega) [.int .u8 3, .string ⟨#[]⟩, .bool false, .slice none 0 0, .bool true] 0 _ HF3.out) _), ((sets_rep (b := w.heap.size + 1) (D := fun b => w.heap.size + 2 ≤ b) (by omega) [.int .u8 3, .string ⟨#[]⟩, .bool false, .slice none 0 0, .bool true] 0 _ (show Rep (fun b => w.heap.size + 2 ≤ b) w3 (encAo ⟨3, ByteArray.empty, .zero, true⟩) [.int .u8 3, .string ⟨#[]⟩, .bool false, .slice none 0 0, .bool true] from (⟨_, rfl, _, rfl, by decide, zero_cells (u := .bool true .nil) ⟨_, rfl, rfl⟩⟩))).alloc _).mono (fun b hb _ => by have : w.heap.size + 2 ≤ b := hb; omega)⟩
      | false =>
        have ht1 := ht
        rw [wIs_iff] at ht
        have ht2 : ¬ wd.toList = [116, 114, 117, 101] := by simpa using ht
        cases hf : wIs wd [102, 97, 108, 115, 101] with
        | true =>
          have HRS : Hid (res = .ok ⟨3, ByteArray.empty, .zero, false⟩) := Lib.hid (by rw [HRES.out]; unfold atomR; rw [ht1, hf]; rfl)
          clear ht1
          rw [wIs_iff] at hf
          have hf2 : wd.toList = [102, 97, 108, 115, 101] := by simpa using hf
          go_wp2_with fail
          refine bodyPost_ret (v := .agg #[.int .u8 3, .string ⟨#[]⟩, .bool false, .slice none 0 0, .bool false]) (by simp [results, Tryz.results137, go_sem, *]) rfl ⟨?_, [.int .u8 3, .string ⟨#[]⟩, .bool false, .slice none 0 0, .bool false], rfl, ⟨rfl, by simp [Value.oneCell']⟩, ?_⟩
          · exact (((sets_ext (b := w.heap.size + 1) (fun h => by have : w.heap.size + 1 < w.heap.size := h; omega) [.int .u8 3, .string ⟨#[]⟩, .bool false, .slice none 0 0, .bool false] 0 _ HX4.out).alloc _).mono (fun _ _ h => h.elim))
          · rw [HRS.out]; exact ⟨(Blk.alloc (sets_blk (b := w.heap.size + 1) (by omega) [.int .u8 3, .string ⟨#[]⟩, .bool false, .slice none 0 0, .bool false] 0 _ HF3.out) _), ((sets_rep (b := w.heap.size + 1) (D := fun b => w.heap.size + 2 ≤ b) (by omega) [.int .u8 3, .string ⟨#[]⟩, .bool false, .slice none 0 0, .bool false] 0 _ (show Rep (fun b => w.heap.size + 2 ≤ b) w3 (encAo ⟨3, ByteArray.empty, .zero, false⟩) [.int .u8 3, .string ⟨#[]⟩, .bool false, .slice none 0 0, .bool false] from (⟨_, rfl, _, rfl, by decide, zero_cells (u := .bool false .nil) ⟨_, rfl, rfl⟩⟩))).alloc _).mono (fun b hb _ => by have : w.heap.size + 2 ≤ b := hb; omega)⟩
        | false =>
          have hrs : res = match nameS wd false p with | .ok n => .ok ⟨1, n, .zero, false⟩ | .error e => .error e := by rw [HRES.out]; unfold atomR; rw [ht1, hf]; rfl
          clear ht1
          rw [wIs_iff] at hf
          have hf2 : ¬ wd.toList = [102, 97, 108, 115, 101] := by simpa using hf
          have HRS0 := Lib.hid hrs
          clear hrs
          have hnm := HNM.out _ (HX4.out.alloc (.cells #[.bool b, .slice a3 n3 cap3] 38))
          have HNM2 := Lib.hid hnm
          clear hnm
          go_wp2_with fail
          refine HNM2.out.mono ?_
          rintro e w5 ⟨hx5, xs, rfl, ⟨s0, rfl⟩, hr5⟩
          simp only [mkOne]
          have HR5 := Lib.hid hr5
          clear hr5
          have hb5 := (hb3.alloc (.cells #[.bool b, .slice a3 n3 cap3] 38)).ext hx5 (by omega)
          have d0 := hb5.cell 0
          have d1 := hb5.cell 1
          have d2 := hb5.cell 2
          have d3 := hb5.cell 3
          have d4 := hb5.cell 4
          have k0 := hb5.frozen 0
          have k1 := hb5.frozen 1
          have k2 := hb5.frozen 2
          have k3 := hb5.frozen 3
          have k4 := hb5.frozen 4
          simp only [List.getElem?_toArray, List.getElem?_cons_zero, List.getElem?_cons_succ] at d0 d1 d2 d3 d4
          have HX5 := Lib.hid (((HX4.out.alloc (.cells #[.bool b, .slice a3 n3 cap3] 38)).mono (M' := fun i => i = fb) (fun _ _ h => h.elim)).trans' hx5)
          have hs5 := hx5.size
          clear c0 c1 c2 c3 c4 f0 f1 f2 f3 f4 n0 n1 n2 n3' n4 hx5 hb3 hb5 hn3
          go_wp2_with fail
          cases hn : nameS wd false p with
          | ok n =>
            have hr5 := HR5.out
            rw [hn] at hr5
            obtain ⟨hF5, xs', e5, hss, hnil⟩ := hr5
            cases e5
            have HF5 := Lib.hid hF5
            have HRS : Hid (res = .ok ⟨1, s0, .zero, false⟩) := Lib.hid (by rw [HRS0.out, hn])
            refine bodyPost_ret (v := .agg #[.int .u8 1, .string s0, .bool false, .slice none 0 0, .bool false]) (by simp [results, Tryz.results137, go_sem, *]) rfl ⟨?_, [.int .u8 1, .string s0, .bool false, .slice none 0 0, .bool false], rfl, ⟨rfl, by simp [Value.oneCell']⟩, ?_⟩
            · exact (sets_ext (b := w.heap.size + 1) (fun h => by have : w.heap.size + 1 < w.heap.size := h; omega) [.int .u8 1, .string s0, .bool false, .slice none 0 0, .bool false] 0 _ HX5.out)
            · rw [HRS.out]; exact ⟨(sets_blk (b := w.heap.size + 1) (by omega) [.int .u8 1, .string s0, .bool false, .slice none 0 0, .bool false] 0 _ HF5.out), (sets_rep (b := w.heap.size + 1) (D := fun b => w.heap.size + 2 ≤ b) (by omega) [.int .u8 1, .string s0, .bool false, .slice none 0 0, .bool false] 0 _ (show Rep (fun b => w.heap.size + 2 ≤ b) w5 (encAo ⟨1, s0, .zero, false⟩) [.int .u8 1, .string s0, .bool false, .slice none 0 0, .bool false] from (⟨_, rfl, _, rfl, hss, zero_cells (u := .bool false .nil) ⟨_, rfl, rfl⟩⟩))).mono (fun b hb _ => by have : w.heap.size + 2 ≤ b := hb; omega)⟩
          | error q =>
            have hr5 := HR5.out
            rw [hn] at hr5
            have HF5 : Hid (Fst w5 fb true q) := Lib.hid hr5
            have HRS : Hid (res = .error q) := Lib.hid (by rw [HRS0.out, hn])
            refine bodyPost_ret (v := .agg #[.int .u8 1, .string s0, .bool false, .slice none 0 0, .bool false]) (by simp [results, Tryz.results137, go_sem, *]) rfl ⟨?_, [.int .u8 1, .string s0, .bool false, .slice none 0 0, .bool false], rfl, ⟨rfl, by simp [Value.oneCell']⟩, ?_⟩
            · exact (sets_ext (b := w.heap.size + 1) (fun h => by have : w.heap.size + 1 < w.heap.size := h; omega) [.int .u8 1, .string s0, .bool false, .slice none 0 0, .bool false] 0 _ HX5.out)
            · rw [HRS.out]; exact (sets_blk (b := w.heap.size + 1) (by omega) [.int .u8 1, .string s0, .bool false, .slice none 0 0, .bool false] 0 _ HF5.out)

end Go.Proofs.YtmcinpeplkkpfaaGreatDoor

namespace Go.Proofs.YtmcinpeplkkpfaaGreatDoor
open Go.RowKit
set_option linter.unusedVariables false
theorem indexByte_cut : ∀ l : List UInt8, (Lib.indexByte l 46 = -1 ∧ l.dropWhile (· != 46) = []) ∨ (∃ k : Nat, Lib.indexByte l 46 = k ∧ k < l.length ∧ l.takeWhile (· != 46) = l.take k ∧ l.dropWhile (· != 46) = 46 :: l.drop (k + 1))
  | [] => .inl ⟨rfl, rfl⟩
  | c :: l => by
    unfold Lib.indexByte
    by_cases h : c = 46
    · subst h
      exact .inr ⟨0, rfl, by simp, rfl, rfl⟩
    · have h1 : (c == 46) = false := by simpa using h
      have h2 : (c != 46) = true := by simp [bne, h1]
      rw [h1]
      rcases indexByte_cut l with ⟨g1, g2⟩ | ⟨k, g1, g2, g3, g4⟩
      · left
        rw [g1, List.dropWhile_cons, h2]
        exact ⟨rfl, g2⟩
      · right
        have hk : (Lib.indexByte l 46 == -1) = false := by rw [g1]; simp
        refine ⟨k + 1, ?_, by simp; omega, ?_, ?_⟩
        · rw [hk, g1]; simp
        · rw [List.takeWhile_cons, h2, List.take_succ_cons, g3]; rfl
        · rw [List.dropWhile_cons, h2, List.drop_succ_cons]; exact g4

def cutV (s : ByteArray) : Value :=
  match Lib.indexByte s.data.toList 46 with
  | .ofNat k => .tuple #[.string (s.extract 0 k), .string (s.extract (k + 1) s.size), .bool true]
  | _ => .tuple #[.string s, .string ⟨#[]⟩, .bool false]

set_option maxRecDepth 100000 in
theorem cut_any (s : ByteArray) (w : World) (hs : s.size ≤ maxLen) :
    Calls Tryz.prog 164 #[.string s, .string ⟨#[46]⟩] w fun e w' => e = .returned (cutV s) ∧ Ext (fun _ => False) w w' := by
  unfold maxLen at hs
  have hl : s.data.toList.length = s.size := by rw [Lib.size_eq]
  have HI := Lib.hid (fun w => Tryz.stringslite_Index_one s 46 w)
  rcases indexByte_cut s.data.toList with ⟨h, _⟩ | ⟨k, h, hk, _⟩
  · have hc : cutV s = .tuple #[.string s, .string ⟨#[]⟩, .bool false] := by unfold cutV; rw [h]; rfl
    rw [hc]
    rw [h] at HI
    clear hc h hl
    go_enter Tryz.func164, Tryz.ntmps164
    go_wp2_with fail
    refine (HI.out _).mono ?_
    rintro e w1 ⟨rfl, rfl⟩
    go_wp2_with fail
    go_ret3
    exact ⟨rfl, Ext.refl _ _⟩
  · have hc : cutV s = .tuple #[.string (s.extract 0 k), .string (s.extract (k + 1) s.size), .bool true] := by unfold cutV; rw [h]
    rw [hc]
    rw [h] at HI
    have k0 : (0 : Int) ≤ (k : Int) := by omega
    have k1 : (k : Int) < (s.size : Int) := by omega
    have e46 : (⟨#[46]⟩ : ByteArray).size = 1 := rfl
    clear hc h hl hk
    go_enter Tryz.func164, Tryz.ntmps164
    go_wp2_with fail
    refine (HI.out _).mono ?_
    rintro e w1 ⟨rfl, rfl⟩
    go_wp2_with fail
    go_region
    go_wp2_with fail
    go_ret3
    exact ⟨rfl, (Ext.refl _ _).drew⟩

theorem strCut_any (s : ByteArray) (w : World) (hs : s.size ≤ maxLen) :
    Calls Tryz.prog 123 #[.string s, .string ⟨#[46]⟩] w fun e w' => e = .returned (cutV s) ∧ Ext (fun _ => False) w w' := by
  have HC := Lib.hid (fun w => cut_any s w hs)
  have hcv : ∃ a b c, cutV s = .tuple #[.string a, .string b, .bool c] := by
    unfold cutV
    split
    · exact ⟨_, _, _, rfl⟩
    · exact ⟨_, _, _, rfl⟩
  obtain ⟨a, b, c, h⟩ := hcv
  rw [h] at HC ⊢
  clear h
  go_enter Tryz.func123, Tryz.ntmps123
  go_wp2_with fail
  refine (HC.out _).mono ?_
  rintro e w1 ⟨rfl, hx⟩
  go_wp2_with fail
  go_ret3
  exact ⟨rfl, hx⟩

def oneDigit (D : List UInt8) (nm : Bool) : Bool := match D with | [d] => digit d && nm | _ => false

theorem oneDigit_no (D : List UInt8) : oneDigit D false = false := by
  unfold oneDigit
  split
  · rw [Bool.and_false]
  · rfl

theorem oneDigit_many (D : List UInt8) (nm : Bool) (h : D.length ≠ 1) : oneDigit D nm = false := by
  unfold oneDigit
  split
  · exact absurd rfl h
  · rfl

set_option maxRecDepth 100000 in
set_option maxHeartbeats 1000000 in
theorem function_any (s : ByteArray) (w : World) (hs : s.size ≤ maxLen) :
    Calls Tryz.prog 76 #[.string s] w fun e w' => e = .returned (.bool (isFun s)) ∧ Ext (fun _ => False) w w' := by
  have HC := Lib.hid (fun w => strCut_any s w hs)
  have hl : s.data.toList.length = s.size := by rw [Lib.size_eq]
  have htl := Lib.toList_data s
  by_cases ht : s.data.toList = [116, 97, 103]
  · have e : isFun s = true := by unfold isFun funL; rw [ht]; rfl
    rw [e]
    have ht1 : s.toList = [116, 97, 103] := by rw [htl]; exact ht
    have hcv : ∃ a b c, cutV s = .tuple #[.string a, .string b, .bool c] := by
      unfold cutV
      split
      · exact ⟨_, _, _, rfl⟩
      · exact ⟨_, _, _, rfl⟩
    obtain ⟨a, b, c, h⟩ := hcv
    rw [h] at HC
    clear h e ht htl hl
    go_enter Tryz.func76, Tryz.ntmps76
    go_wp2_with fail
    refine (HC.out _).mono ?_
    rintro e w1 ⟨rfl, hx⟩
    go_wp2_with fail
    go_ret
    exact ⟨rfl, hx⟩
  · have ht1 : ¬ s.toList = [116, 97, 103] := by rw [htl]; exact ht
    have htb : (s.data.toList == [116, 97, 103]) = false := by simpa using ht
    have ht2 : (s.toList == [116, 97, 103]) = false := by simpa using ht1
    rcases indexByte_cut s.data.toList with ⟨h, h2⟩ | ⟨k, h, hk, h3, h4⟩
    · have e : isFun s = false := by unfold isFun funL; rw [htb, h2]; rfl
      rw [e]
      have hc : cutV s = .tuple #[.string s, .string ⟨#[]⟩, .bool false] := by unfold cutV; rw [h]; rfl
      rw [hc] at HC
      clear h h2 hc e ht htl hl htb
      go_enter Tryz.func76, Tryz.ntmps76
      go_wp2_with fail
      refine (HC.out _).mono ?_
      rintro e w1 ⟨rfl, hx⟩
      go_wp2_with fail
      go_ret
      exact ⟨rfl, hx⟩
    · have hc : cutV s = .tuple #[.string (s.extract 0 k), .string (s.extract (k + 1) s.size), .bool true] := by unfold cutV; rw [h]
      rw [hc] at HC
      have ha : (s.extract 0 k).data.toList = s.data.toList.take k := by rw [Lib.extract_data]; simp
      have hb : (s.extract (k + 1) s.size).data.toList = s.data.toList.drop (k + 1) := Lib.extract_to_end s (k + 1)
      have hbs : (s.extract (k + 1) s.size).size = (s.data.toList.drop (k + 1)).length := by rw [Lib.size_eq, hb]
      have HNM := Lib.hid (fun w => name_any (s.extract 0 k) w)
      have hna : isName (s.extract 0 k) = nameL (s.data.toList.take k) := by unfold isName; rw [ha]
      have hif : isFun s = oneDigit (s.data.toList.drop (k + 1)) (nameL (s.data.toList.take k)) := by
        unfold isFun funL oneDigit
        rw [htb, h4, h3, Bool.false_or]
        rcases s.data.toList.drop (k + 1) with _ | ⟨d, _ | ⟨_, _⟩⟩ <;> rfl
      rw [hif]
      generalize s.extract 0 k = con at *
      generalize hfe : s.extract (k + 1) s.size = fld at *
      have hcs : con.size ≤ maxLen := by rw [Lib.size_eq, ha, List.length_take]; omega
      generalize s.data.toList.drop (k + 1) = D at *
      generalize nameL (s.data.toList.take k) = nm at *
      clear h hc h3 h4 hk hif htl ht htb hl hfe ha
      cases nm with
      | false =>
        have e := oneDigit_no D
        rw [e]
        have HNA := Lib.hid hna
        clear hna e hb hbs
        go_enter Tryz.func76, Tryz.ntmps76
        go_wp2_with fail
        refine (HC.out _).mono ?_
        rintro e w1 ⟨rfl, hx⟩
        go_wp2_with fail
        refine (HNM.out _).mono ?_
        rintro e w2 ⟨rfl, hx2⟩
        rw [HNA.out]
        have hx12 := hx.trans' hx2
        go_wp2_with fail
        go_ret
        exact ⟨rfl, hx12⟩
      | true =>
        by_cases h1 : D.length = 1
        · obtain ⟨d, rfl⟩ : ∃ d, D = [d] := List.length_eq_one_iff.1 h1
          have e : oneDigit [d] true = digit d := by simp [oneDigit]
          rw [e]
          have hs1 : fld.size = 1 := hbs
          have hlt : 0 < fld.size := by omega
          have hd0 : fld[0] = d := by
            have e := drop_cons hlt
            rw [List.drop_zero, hb] at e
            simpa using e.symm
          have hdi := Lib.hid (digit_iff d)
          rw [← hd0] at hdi
          have HD0 := Lib.hid hd0
          have f1 : ((fld.size : Int) == 1) = true := by rw [hs1]; rfl
          have f2 : (fld.size : Int) = 1 := by omega
          have HNA := Lib.hid hna
          clear hna e hb hbs h1 hd0 hs1
          by_cases g48 : (fld[0].toNat : Int) < 48
          · have hdf : digit d = false := by
              rw [Bool.eq_false_iff]; intro hh
              rw [← HD0.out] at hh
              have := (hdi.out.1 hh).1; omega
            rw [hdf]
            have g1 : decide ((48 : Int) ≤ (fld[0].toNat : Int)) = false := by simp; omega
            clear hdf
            go_enter Tryz.func76, Tryz.ntmps76
            go_wp2_with fail
            refine (HC.out _).mono ?_
            rintro e w1 ⟨rfl, hx⟩
            go_wp2_with fail
            refine (HNM.out _).mono ?_
            rintro e w2 ⟨rfl, hx2⟩
            rw [HNA.out]
            have hx12 := hx.trans' hx2
            go_wp2_with fail
            go_ret
            exact ⟨rfl, hx12⟩
          · have g1 : (48 : Int) ≤ (fld[0].toNat : Int) := by omega
            by_cases g57 : (fld[0].toNat : Int) ≤ 57
            · have hdt : digit d = true := by
                rw [← HD0.out]
                exact hdi.out.2 ⟨by omega, by omega⟩
              rw [hdt]
              clear hdt
              go_enter Tryz.func76, Tryz.ntmps76
              go_wp2_with fail
              refine (HC.out _).mono ?_
              rintro e w1 ⟨rfl, hx⟩
              go_wp2_with fail
              refine (HNM.out _).mono ?_
              rintro e w2 ⟨rfl, hx2⟩
              rw [HNA.out]
              have hx12 := hx.trans' hx2
              go_wp2_with fail
              go_ret
              exact ⟨rfl, hx12⟩
            · have hdf : digit d = false := by
                rw [Bool.eq_false_iff]; intro hh
                rw [← HD0.out] at hh
                have := (hdi.out.1 hh).2; omega
              rw [hdf]
              have g2 : decide ((fld[0].toNat : Int) ≤ 57) = false := by simp; omega
              clear hdf
              go_enter Tryz.func76, Tryz.ntmps76
              go_wp2_with fail
              refine (HC.out _).mono ?_
              rintro e w1 ⟨rfl, hx⟩
              go_wp2_with fail
              refine (HNM.out _).mono ?_
              rintro e w2 ⟨rfl, hx2⟩
              rw [HNA.out]
              have hx12 := hx.trans' hx2
              go_wp2_with fail
              go_ret
              exact ⟨rfl, hx12⟩
        · have e := oneDigit_many D true h1
          rw [e]
          have f1 : ((fld.size : Int) == 1) = false := by simp; omega
          have f2 : ¬ (fld.size : Int) = 1 := by omega
          have HNA := Lib.hid hna
          clear hna e hb hbs h1
          go_enter Tryz.func76, Tryz.ntmps76
          go_wp2_with fail
          refine (HC.out _).mono ?_
          rintro e w1 ⟨rfl, hx⟩
          go_wp2_with fail
          refine (HNM.out _).mono ?_
          rintro e w2 ⟨rfl, hx2⟩
          rw [HNA.out]
          have hx12 := hx.trans' hx2
          go_wp2_with fail
          go_ret
          exact ⟨rfl, hx12⟩

end Go.Proofs.YtmcinpeplkkpfaaGreatDoor

namespace Go.Proofs.YtmcinpeplkkpfaaGreatDoor
open Go.RowKit Go.MapKept
set_option linter.unusedVariables false
set_option linter.unusedSimpArgs false
def formL : List MapEntry :=
  [⟨.string (⟨#[43]⟩ : ByteArray), .agg #[.int .u8 5, .int .i64 (-1)], 0⟩, ⟨.string (⟨#[61]⟩ : ByteArray), .agg #[.int .u8 8, .int .i64 2], 1⟩, ⟨.string (⟨#[60, 61]⟩ : ByteArray), .agg #[.int .u8 9, .int .i64 2], 2⟩, ⟨.string (⟨#[110, 111, 116]⟩ : ByteArray), .agg #[.int .u8 10, .int .i64 1], 3⟩,
   ⟨.string (⟨#[97, 110, 100]⟩ : ByteArray), .agg #[.int .u8 11, .int .i64 (-1)], 4⟩, ⟨.string (⟨#[111, 114]⟩ : ByteArray), .agg #[.int .u8 12, .int .i64 (-1)], 5⟩, ⟨.string (⟨#[105, 102, 102]⟩ : ByteArray), .agg #[.int .u8 13, .int .i64 2], 6⟩]

def formE (i : Nat) : Obj := .map (formL.take i).toArray i

theorem form_make (w : World) : (Instr.makeMap 172 none).run Tryz.prog w = .ok (.map (some w.heap.size)) (w.alloc (formE 0)) := rfl

theorem push_set {α : Type} (xs : Array α) (a b : α) : (xs.push a).setIfInBounds xs.size b = xs.push b := by
  apply Array.ext'
  simp

theorem alloc_again (w : World) (o o' : Obj) : ({ w.alloc o with heap := (w.alloc o).heap.setIfInBounds w.heap.size o' } : World) = w.alloc o' := by
  have h : (w.alloc o).heap = w.heap.push o := rfl
  rw [h, push_set]; rfl

theorem key_str (s : ByteArray) : IsKey .string (.string s) := by unfold IsKey; trivial

theorem run_insert (w : World) (es : Array MapEntry) (clock : Nat) (s : ByteArray) (v : Value) (h : Instr.findNow .string (.string s) es.toList 0 = some none) :
    (Instr.mapUpdate 172 (.map (some w.heap.size)) (.string s) v).run Tryz.prog (w.alloc (.map es clock)) = .ok () (w.alloc (.map (es.push ⟨.string s, v, clock⟩) (clock + 1))) := by
  have hb : (w.alloc (.map es clock)).heap[w.heap.size]? = some (.map es clock) := heap_alloc_new w _
  have := alloc_again w (.map es clock) (.map (es.push ⟨.string s, v, clock⟩) (clock + 1))
  have hg : (getObj w.heap.size).run Tryz.prog (w.alloc (.map es clock)) = .ok (.map es clock) (w.alloc (.map es clock)) := MapKept.run_getObj_map hb
  simp only [Instr.mapUpdate, Sem.run_bind, run_underlying Tryz.underlying172, hg, run_checkKey (w := w.alloc (.map es clock)) Tryz.underlying9 (key_str s), run_findKey (w := w.alloc (.map es clock)) Tryz.underlying9 h, run_setObj_map _ hb, Result.andThen, this]

theorem form_step (w : World) (i : Nat) (s : ByteArray) (v : Value) (hi : formL[i]? = some ⟨.string s, v, i⟩) (h : Instr.findNow .string (.string s) (formL.take i) 0 = some none) :
    (Instr.mapUpdate 172 (.map (some w.heap.size)) (.string s) v).run Tryz.prog (w.alloc (formE i)) = .ok () (w.alloc (formE (i + 1))) := by
  have e : formE (i + 1) = .map ((formL.take i).toArray.push ⟨.string s, v, i⟩) (i + 1) := by
    unfold formE
    have hlt := (List.getElem?_eq_some_iff.1 hi).1
    have he : formL[i] = ⟨.string s, v, i⟩ := (List.getElem?_eq_some_iff.1 hi).2
    rw [List.take_succ_eq_append_getElem hlt, he]
    simp
  rw [e]
  exact run_insert w _ i s v (by simpa using h)

def formV (s : ByteArray) : Value :=
  match formS s with
  | some (k, some m) => .tuple #[.agg #[.int .u8 k, .int .i64 m], .bool true]
  | some (k, none) => .tuple #[.agg #[.int .u8 k, .int .i64 (-1)], .bool true]
  | none => .tuple #[.agg #[.int .u8 0, .int .i64 0], .bool false]

theorem beq_w (s : ByteArray) (l : List UInt8) : (s == (⟨l.toArray⟩ : ByteArray)) = wIs s l := by
  cases s with
  | mk d =>
    unfold wIs
    show (d == l.toArray) = (d.toList == l)
    rw [Bool.eq_iff_iff, beq_iff_eq, beq_iff_eq]
    constructor
    · rintro rfl; simp
    · intro h
      apply Array.ext'
      simpa using h

def formF : List MapEntry → Nat → ByteArray → Option (Nat × Value)
  | [], _, _ => none
  | e :: es, i, s => match e.key with
    | .string k => if s == k then some (i, e.val) else formF es (i + 1) s
    | _ => none

theorem find_formF (s : ByteArray) : ∀ (l : List MapEntry) (i : Nat), (∀ e ∈ l, ∃ k, e.key = .string k) → Instr.findNow .string (.string s) l i = some (formF l i s)
  | [], _, _ => rfl
  | e :: es, i, h => by
    obtain ⟨k, hk⟩ := h e (List.mem_cons_self ..)
    have ih := find_formF s es (i + 1) (fun x hx => h x (List.mem_cons_of_mem _ hx))
    unfold Instr.findNow formF
    rw [hk]
    simp only [Instr.sameNow]
    cases hs : (s == k) with
    | true => simp
    | false => simp [ih]

theorem formL_keys : ∀ e ∈ formL, ∃ k, e.key = .string k := by
  intro e he
  simp only [formL, List.mem_cons, List.not_mem_nil, or_false] at he
  rcases he with rfl | rfl | rfl | rfl | rfl | rfl | rfl <;> exact ⟨_, rfl⟩

theorem run_ask (w : World) (s : ByteArray) : (Instr.lookup 172 (.map (some w.heap.size)) (.string s) true).run Tryz.prog (w.alloc (formE 7)) = .ok (match formF formL 0 s with | some (_, v) => .tuple #[v, .bool true] | none => .tuple #[.agg #[.int .u8 0, .int .i64 0], .bool false]) (w.alloc (formE 7)) := by
  have hb : (w.alloc (.map (formL.take 7).toArray 7)).heap[w.heap.size]? = some (.map (formL.take 7).toArray 7) := heap_alloc_new w _
  have hg : (getObj w.heap.size).run Tryz.prog (w.alloc (.map (formL.take 7).toArray 7)) = .ok (.map (formL.take 7).toArray 7) (w.alloc (.map (formL.take 7).toArray 7)) := MapKept.run_getObj_map hb
  have hl : (formL.take 7).toArray.toList = formL := rfl
  have hf := find_formF s formL 0 formL_keys
  have hf2 : Instr.findNow .string (.string s) (formL.take 7).toArray.toList 0 = some (formF formL 0 s) := by rw [hl]; exact hf
  have hz : (zeroValue 170).run Tryz.prog (w.alloc (.map (formL.take 7).toArray 7)) = .ok (.agg #[.int .u8 0, .int .i64 0]) (w.alloc (.map (formL.take 7).toArray 7)) := by kernel_rfl
  unfold formE
  cases hff : formF formL 0 s with
  | none =>
    rw [hff] at hf2
    simp only [Instr.lookup, Sem.run_bind, Sem.run_pure, run_underlying Tryz.underlying172, hg, run_checkKey (w := w.alloc (.map (formL.take 7).toArray 7)) Tryz.underlying9 (key_str s), run_findKey (w := w.alloc (.map (formL.take 7).toArray 7)) Tryz.underlying9 hf2, hz, Result.andThen, if_true]
  | some x =>
    rw [hff] at hf2
    obtain ⟨i, v⟩ := x
    simp only [Instr.lookup, Sem.run_bind, Sem.run_pure, run_underlying Tryz.underlying172, hg, run_checkKey (w := w.alloc (.map (formL.take 7).toArray 7)) Tryz.underlying9 (key_str s), run_findKey (w := w.alloc (.map (formL.take 7).toArray 7)) Tryz.underlying9 hf2, Result.andThen, if_true]

theorem formF_formS (s : ByteArray) : (match formF formL 0 s with | some (_, v) => Value.tuple #[v, .bool true] | none => .tuple #[.agg #[.int .u8 0, .int .i64 0], .bool false]) = formV s := by
  unfold formV formS
  simp only [formL, formF, beq_w]
  by_cases h0 : wIs s [43] = true
  · simp only [h0,  if_true, if_false, Bool.false_eq_true]; rfl
  rw [Bool.not_eq_true] at h0
  by_cases h1 : wIs s [61] = true
  · simp only [h0, h1,  if_true, if_false, Bool.false_eq_true]; rfl
  rw [Bool.not_eq_true] at h1
  by_cases h2 : wIs s [60, 61] = true
  · simp only [h0, h1, h2,  if_true, if_false, Bool.false_eq_true]; rfl
  rw [Bool.not_eq_true] at h2
  by_cases h3 : wIs s [110, 111, 116] = true
  · simp only [h0, h1, h2, h3,  if_true, if_false, Bool.false_eq_true]; rfl
  rw [Bool.not_eq_true] at h3
  by_cases h4 : wIs s [97, 110, 100] = true
  · simp only [h0, h1, h2, h3, h4,  if_true, if_false, Bool.false_eq_true]; rfl
  rw [Bool.not_eq_true] at h4
  by_cases h5 : wIs s [111, 114] = true
  · simp only [h0, h1, h2, h3, h4, h5,  if_true, if_false, Bool.false_eq_true]; rfl
  rw [Bool.not_eq_true] at h5
  by_cases h6 : wIs s [105, 102, 102] = true
  · simp only [h0, h1, h2, h3, h4, h5, h6,  if_true, if_false, Bool.false_eq_true]; rfl
  rw [Bool.not_eq_true] at h6
  simp only [h0, h1, h2, h3, h4, h5, h6, if_false, Bool.false_eq_true]

theorem form_ask (w : World) (s : ByteArray) : (Instr.lookup 172 (.map (some w.heap.size)) (.string s) true).run Tryz.prog (w.alloc (formE 7)) = .ok (formV s) (w.alloc (formE 7)) := by
  rw [run_ask, formF_formS]

end Go.Proofs.YtmcinpeplkkpfaaGreatDoor
