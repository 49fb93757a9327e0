/- Texts put together by wip/shake.py: PTerm, PTermB, PTermC, PTermD: the walks and the laws that the claim's last theorem rests on. -/
import Derived.Test.YtmcinpeplkkpfaaGreatDoorZ14
namespace Go.Proofs.YtmcinpeplkkpfaaGreatDoor
open Go.RowKit
set_option linter.unusedVariables false
set_option linter.unusedSimpArgs false
def TermC (n : Nat) : Prop := ∀ (B fb : Nat) (wd : ByteArray) (kv : Value) (r : Bool) (p : Int) (k : F) (w : World), k.size < n → k.size ≤ 262144 → B ≤ w.heap.size → B ≤ fb → Fst w fb false 0 → Sl (· < B) w kv k → wd.size ≤ maxLen →
  Calls Tryz.prog 27 #[nodeV wd kv r p fb] w (RdPost fb (shpN 5) mkAgg encTm (termS k wd r p) w)

theorem Tm.u_app : ∀ (t : Tm) (r x : U), (t.u r).app x = t.u (r.app x)
  | .mk _ _ _ _, _, _ => rfl

theorem luTm : LU encTm tmsU := LU.of rfl fun a l => by
  show a.u (tmsU l) = (a.u .nil).app (tmsU l)
  rw [Tm.u_app]; rfl

theorem terms_each : ∀ f : F, termsS f = eachS (fun wd r p k => termS k wd r p) f
  | .nil => rfl
  | .cons wd r p k rest => by
    unfold termsS eachS
    rw [terms_each rest]
    cases termS k wd r p with
    | error e => rfl
    | ok t => cases eachS (fun wd r p k => termS k wd r p) rest <;> rfl

theorem term_enters : ∀ args w, (callFunc 27 args).run Tryz.prog w = .ok (.enter 27 args) w := enters_of Tryz.func27 (by kernel_rfl) rfl

theorem termC_kids {n B fb : Nat} {k : F} (h : TermC n) (hk : k.size ≤ n) (hs : k.size ≤ 262144) (hfb : B ≤ fb) : ReadsKids B fb 27 (shpN 5) mkAgg encTm (fun wd r p k => termS k wd r p) k :=
  ⟨term_enters, fun i wd1 r1 p1 k1 kv1 w1 hg hB hF hsl hwd => by
    have := F.get_size hg
    exact h B fb wd1 kv1 r1 p1 k1 w1 (by omega) (by omega) hB hfb hF hsl hwd⟩

def tmR (kd : Nat) (name : ByteArray) : RR (List Tm) → RR Tm
  | .ok l => .ok (.mk kd name .zero l)
  | .error e => .error e

set_option maxRecDepth 100000 in
set_option maxHeartbeats 2000000 in
theorem term_form_ok {n B : Nat} (ih : TermC n) (wd : ByteArray) (kv : Value) (p : Int) (fb : Nat) (k : F) (w : World) (hkn : k.size ≤ n) (hks : k.size ≤ 262144) (hB : B ≤ w.heap.size) (hfb : B ≤ fb) (hF : Fst w fb false 0) (hk : Sl (· < B) w kv k)
    (kd : Nat) (mn : Int) (hform : formV (headW true k) = .tuple #[.agg #[.int .u8 kd, .int .i64 mn], .bool true]) (e1 : wIs (headW true k) [42] = false) (e2 : wIs (headW true k) [107, 97, 112, 112, 97] = false) (hm1 : -1 ≤ mn) (hm2 : mn ≤ 10) (hgood : mn = -1 ∨ (k.len : Int) = mn + 1) (hk1 : 1 ≤ k.len) :
    Calls Tryz.prog 27 #[nodeV wd kv true p fb] w (RdPost fb (shpN 5) mkAgg encTm (tmR kd ByteArray.empty (termsS (k.dropN 1))) w) := by
  have hkl := F.len_le_size k
  have HHD := Lib.hid (fun w' (hx : Ext (fun _ => False) w w') => head_any wd kv true p fb k w' (hk.ext hx (fun _ _ h => h)))
  have HRS := Lib.hid (fun w' (hx : Ext (fun _ => False) w w') => restTm_any (B := B) 27 encTm tmsU (fun wd r p k => termS k wd r p) 1 wd kv true p fb k w' (Nat.le_trans hB hx.size) hfb (Fst.ext hF hx id) (hk.ext hx (fun _ _ h => h)) hks (by omega) luTm (termC_kids ih hkn hks hfb))
  obtain ⟨a, cap, rfl, h1, h2⟩ := hk.shape
  rw [terms_each]
  generalize headW true k = s at *
  rw [wIs_iff] at e1 e2
  have e1' : ¬ s.toList = [42] := by simpa using e1
  have e2' : ¬ s.toList = [107, 97, 112, 112, 97] := by simpa using e2
  have hm := form_make
  have s0 := fun w => form_step w 0 (⟨#[43]⟩ : ByteArray) _ rfl rfl
  have s1 := fun w => form_step w 1 (⟨#[61]⟩ : ByteArray) _ rfl rfl
  have s2 := fun w => form_step w 2 (⟨#[60, 61]⟩ : ByteArray) _ rfl rfl
  have s3 := fun w => form_step w 3 (⟨#[110, 111, 116]⟩ : ByteArray) _ rfl rfl
  have s4 := fun w => form_step w 4 (⟨#[97, 110, 100]⟩ : ByteArray) _ rfl rfl
  have s5 := fun w => form_step w 5 (⟨#[111, 114]⟩ : ByteArray) _ rfl rfl
  have s6 := fun w => form_step w 6 (⟨#[105, 102, 102]⟩ : ByteArray) _ rfl rfl
  have sq := fun w => form_ask w s
  rw [hform] at sq
  simp only [Nat.zero_add, Nat.reduceAdd] at s0 s1 s2 s3 s4 s5 s6
  have hx1 := (Ext.refl (fun _ => False) w).alloc (.cells #[.string wd, .slice a k.len cap, .bool true, .int .i64 p, .pointer (some ⟨fb, 0, none⟩)] 57)
  have hx2 := hx1.alloc (.cells #[.int .u8 0, .string ⟨#[]⟩, .bool false, .slice none 0 0, .slice none 0 0] 41)
  have hb2 := Blk.new (w.alloc (.cells #[.string wd, .slice a k.len cap, .bool true, .int .i64 p, .pointer (some ⟨fb, 0, none⟩)] 57)) #[.int .u8 0, .string ⟨#[]⟩, .bool false, .slice none 0 0, .slice none 0 0] 41
  have hn2 := (NodeIn.new w wd (.slice a k.len cap) true p fb).alloc (.cells #[.int .u8 0, .string ⟨#[]⟩, .bool false, .slice none 0 0, .slice none 0 0] 41)
  have hz : (w.alloc (.cells #[.string wd, .slice a k.len cap, .bool true, .int .i64 p, .pointer (some ⟨fb, 0, none⟩)] 57)).heap.size = w.heap.size + 1 := by simp
  have hz2 : ((w.alloc (.cells #[.string wd, .slice a k.len cap, .bool true, .int .i64 p, .pointer (some ⟨fb, 0, none⟩)] 57)).alloc (.cells #[.int .u8 0, .string ⟨#[]⟩, .bool false, .slice none 0 0, .slice none 0 0] 41)).heap.size = w.heap.size + 2 := by simp
  rw [hz] at hb2
  have hF2 := Fst.ext hF hx2 id
  have hfl := Blk.lt hF
  have HZ2 := Lib.hid hz2
  clear hz hz2 hk h1 h2 hform hx1
  unfold nodeV at *
  obtain ⟨res, hres0⟩ : ∃ res, res = tmR kd ByteArray.empty (eachS (fun wd r p k => termS k wd r p) (k.dropN 1)) := ⟨_, rfl⟩
  rw [← hres0]
  have HRES := Lib.hid hres0
  clear hres0
  have HGOOD := Lib.hid hgood
  clear hgood
  go_enter Tryz.func27, Tryz.ntmps27
  go_wp2_with fail
  refine (HHD.out _ hx2).mono ?_
  rintro e w3 ⟨rfl, hx3⟩
  have hb3 := hb2.ext hx3 id
  have hn3 := NodeIn.ext hn2 hx3 id
  have HF3 := Lib.hid (Fst.ext hF2 hx3 id)
  have HX3 := Lib.hid (hx2.trans' hx3)
  have hs3 := hx3.size
  rw [HZ2.out] at hs3
  have l0 : w.heap.size < w3.heap.size := by omega
  have l1 : w.heap.size + 1 < w3.heap.size := by omega
  have c0 := hb3.cell 0
  have c1 := hb3.cell 1
  have c2 := hb3.cell 2
  have c3 := hb3.cell 3
  have c4 := hb3.cell 4
  have f0 := hb3.frozen 0
  have f1 := hb3.frozen 1
  have f2 := hb3.frozen 2
  have f3 := hb3.frozen 3
  have f4 := hb3.frozen 4
  simp only [List.getElem?_toArray, List.getElem?_cons_zero, List.getElem?_cons_succ] at c0 c1 c2 c3 c4
  obtain ⟨n0, n1, n2, n3', n4⟩ := hn3.cells
  clear hx2 hb2 hn2 hF2 hx3
  have hsp := Blk.new (w3.alloc (formE 7)) #[.int .u8 kd, .int .i64 mn] 170
  have hz4 : (w3.alloc (formE 7)).heap.size = w3.heap.size + 1 := by simp
  rw [hz4] at hsp
  have hb4 := (hb3.alloc (formE 7)).alloc (.cells #[.int .u8 kd, .int .i64 mn] 170)
  have hn4 := Blk.alloc (Blk.alloc hn3 (formE 7)) (.cells #[.int .u8 kd, .int .i64 mn] 170)
  have hF4 := Blk.alloc (Blk.alloc HF3.out (formE 7)) (.cells #[.int .u8 kd, .int .i64 mn] 170)
  have hX4 := (HX3.out.alloc (formE 7)).alloc (.cells #[.int .u8 kd, .int .i64 mn] 170)
  have hz5 : ((w3.alloc (formE 7)).alloc (.cells #[.int .u8 kd, .int .i64 mn] 170)).heap.size = w3.heap.size + 2 := by simp
  have HSP := Lib.hid hsp
  have HB4 := Lib.hid hb4
  have HN4 := Lib.hid hn4
  have HF4 := Lib.hid hF4
  have HX4 := Lib.hid hX4
  have HZ5 := Lib.hid hz5
  clear hsp hz4 hb4 hn4 hF4 hX4 hz5 hb3 hn3
  rcases HGOOD.out with hg | hg
  · have g1 : ¬ (0 : Int) ≤ mn := by omega
    have g2 : decide ((0 : Int) ≤ mn) = false := by simp; omega
    clear hg
    go_wp2_with fail
    clear g1 g2 c0 c1 c2 c3 c4 f0 f1 f2 f3 f4 n0 n1 n2 n3' n4 hm s0 s1 s2 s3 s4 s5 s6 sq
    generalize (w3.alloc (formE 7)).alloc (.cells #[.int .u8 kd, .int .i64 mn] 170) = w4 at *
    generalize w3.heap.size = b3 at *
    obtain ⟨m0, m1, m2, m3, m4⟩ := NodeIn.cells HN4.out
    have HNB : w.heap.size + 1 ≠ fb ∧ w.heap.size ≠ fb ∧ b3 + 1 ≠ fb ∧ b3 + 1 ≠ w.heap.size + 1 := by omega
    haveI ne : Nonempty (Wd (fun x => Ext (fun b => b = fb ∨ b = w.heap.size + 1) w4 x)) := ⟨⟨w4, Ext.refl _ _⟩⟩
    have q0 : ∀ x : Wd (fun x => Ext (fun b => b = fb ∨ b = w.heap.size + 1) w4 x), x.w.cell? ⟨b3 + 1, 0, none⟩ = some (.int .u8 kd) := fun x => x.ok.cellSome (by simpa using HSP.out.cell 0) (fun h => by simp at h; omega)
    have q1 : ∀ x : Wd (fun x => Ext (fun b => b = fb ∨ b = w.heap.size + 1) w4 x), x.w.cell? ⟨w.heap.size, 0, none⟩ = some (.string wd) := fun x => x.ok.cellSome m0 (fun h => by simp at h; omega)
    have q2 : ∀ x : Wd (fun x => Ext (fun b => b = fb ∨ b = w.heap.size + 1) w4 x), x.w.cell? ⟨w.heap.size, 1, none⟩ = some (.slice a k.len cap) := fun x => x.ok.cellSome m1 (fun h => by simp at h; omega)
    have q3 : ∀ x : Wd (fun x => Ext (fun b => b = fb ∨ b = w.heap.size + 1) w4 x), x.w.cell? ⟨w.heap.size, 2, none⟩ = some (.bool true) := fun x => x.ok.cellSome m2 (fun h => by simp at h; omega)
    have q4 : ∀ x : Wd (fun x => Ext (fun b => b = fb ∨ b = w.heap.size + 1) w4 x), x.w.cell? ⟨w.heap.size, 3, none⟩ = some (.int .i64 p) := fun x => x.ok.cellSome m3 (fun h => by simp at h; omega)
    have q5 : ∀ x : Wd (fun x => Ext (fun b => b = fb ∨ b = w.heap.size + 1) w4 x), x.w.cell? ⟨w.heap.size, 4, none⟩ = some (.pointer (some ⟨fb, 0, none⟩)) := fun x => x.ok.cellSome m4 (fun h => by simp at h; omega)
    clear m0 m1 m2 m3 m4
    refine wp_region_steps (S := fun x => Ext (fun b => b = fb ∨ b = w.heap.size + 1) w4 x) [([0, 1, 2], [3]), ([4], [5]), ([6], [])] _ (by kernel_rfl) (by kernel_rfl) rfl (by kernel_rfl) (fun _ d _ _ _ h => by cases d <;> exact h) (Ext.refl _ _).drew ?_
    simp only [segOps, List.filterMap_cons, List.filterMap_nil, List.getElem?_cons_zero, List.getElem?_cons_succ]
    refine wpSegs_cons ?_
    change wpQuiet _ _ _ _ (_ :: _ :: _ :: []) _
    repeat (go_big_quiet_step (fail))
    refine wpQuiet_nil ?_
    refine wpLoud_step rfl (fun K hK => ?_)
    go_simp
    refine (HRS.out _ HX4.out.drew).mono ?_
    rintro e w5 ⟨hx5, xs, rfl, hsh, hres⟩
    have hx5' : Ext (· = fb) w4 w5 := ⟨hx5.os, hx5.tape, hx5.output, hx5.size, hx5.block⟩
    obtain ⟨a9, n9, cap9, rfl⟩ := hsh
    simp only [mkOne] at *
    have hb5 := HB4.out.ext hx5' HNB.1
    have HB5 := Lib.hid hb5
    have HX5 := Lib.hid hx5'
    have HR5 := Lib.hid hres
    refine hK _ _ (hx5'.mono (fun _ _ h => .inl h)) ?_
    clear hK hx5 hx5' hres
    refine wpLoud_nil ?_
    refine wpSegs_cons ?_
    change wpQuiet _ _ _ _ (_ :: []) _
    repeat (go_big_quiet_step (fail))
    refine wpQuiet_nil ?_
    refine wpLoud_step rfl (fun K hK => ?_)
    have c0 := HB5.out.cell 0
    have f0 := HB5.out.frozen 0
    simp only [List.getElem?_toArray, List.getElem?_cons_zero, List.getElem?_cons_succ] at c0
    go_simp
    refine hK _ _ ((HX5.out.mono (fun _ _ h => .inl h)).setCell (p := ⟨w.heap.size + 1, 0, none⟩) (fun _ => .inr rfl) _) ?_
    clear hK
    refine wpLoud_nil ?_
    refine wpSegs_cons ?_
    change wpQuiet _ _ _ _ (_ :: []) _
    repeat (go_big_quiet_step (fail))
    refine wpQuiet_nil ?_
    refine wpLoud_nil ?_
    refine wpSegs_nil ?_
    clear q0 q1 q2 q3 q4 q5 ne c0 f0
    have hb6 := HB5.out.set 0 (.int .u8 kd)
    have HX6 : Hid (Ext (· = fb) w (w5.setCell ⟨w.heap.size + 1, 0, none⟩ (.int .u8 kd))) := Lib.hid (((HX4.out.mono (M' := (· = fb)) (fun _ _ h => h.elim)).trans' HX5.out).setCell (p := ⟨w.heap.size + 1, 0, none⟩) (fun h => by have h : w.heap.size + 1 < w.heap.size := h; omega) _)
    have hz6 : w.heap.size + 1 < w4.heap.size := by rw [HZ5.out]; omega
    have HR6 : Hid (match (eachS (fun wd r p k => termS k wd r p) (k.dropN 1)) with
      | .ok l => Fst (w5.setCell ⟨w.heap.size + 1, 0, none⟩ (.int .u8 kd)) fb false 0 ∧ Rep (fun b => w.heap.size + 2 ≤ b) (w5.setCell ⟨w.heap.size + 1, 0, none⟩ (.int .u8 kd)) (.sl l.length (tmsU l) .nil) [.slice a9 n9 cap9]
      | .error q => Fst (w5.setCell ⟨w.heap.size + 1, 0, none⟩ (.int .u8 kd)) fb true q) := by
      have h := HR5.out
      refine Lib.hid ?_
      cases hd : eachS (fun wd r p k => termS k wd r p) (k.dropN 1) with
      | ok l =>
        rw [hd] at h
        exact ⟨Fst.setOther h.1 ⟨w.heap.size + 1, 0, none⟩ HNB.1 _, Rep.setOther (h.2.mono (D' := fun b => w.heap.size + 2 ≤ b) (fun b hb _ => by have hb : w4.heap.size ≤ b := hb; omega)) ⟨w.heap.size + 1, 0, none⟩ (by simp) _⟩
      | error q =>
        rw [hd] at h
        exact Fst.setOther h ⟨w.heap.size + 1, 0, none⟩ HNB.1 _
    generalize w5.setCell ⟨w.heap.size + 1, 0, none⟩ (.int .u8 kd) = w6 at *
    simp only [List.setIfInBounds_toArray, List.set_cons_zero] at hb6
    have c0 := hb6.cell 0
    have c1 := hb6.cell 1
    have c2 := hb6.cell 2
    have c3 := hb6.cell 3
    have c4 := hb6.cell 4
    have f0 := hb6.frozen 0
    have f1 := hb6.frozen 1
    have f2 := hb6.frozen 2
    have f3 := hb6.frozen 3
    have f4 := hb6.frozen 4
    simp only [List.getElem?_toArray, List.getElem?_cons_zero, List.getElem?_cons_succ] at c0 c1 c2 c3 c4
    clear hb6
    go_wp2_with fail
    refine bodyPost_ret (v := .agg #[.int .u8 kd, .string ⟨#[]⟩, .bool false, .slice none 0 0, .slice a9 n9 cap9]) (by simp [results, Tryz.results27, go_sem, *]) rfl ⟨?_, [.int .u8 kd, .string ⟨#[]⟩, .bool false, .slice none 0 0, .slice a9 n9 cap9], rfl, ⟨rfl, by simp [Value.oneCell']⟩, ?_⟩
    · exact (sets_ext (b := w.heap.size + 1) (fun h => by have : w.heap.size + 1 < w.heap.size := h; omega) [.int .u8 kd, .string ⟨#[]⟩, .bool false, .slice none 0 0, .slice a9 n9 cap9] 0 _ (HX6.out.setCell (p := ⟨w.heap.size + 1, 4, none⟩) (fun h => by have h : w.heap.size + 1 < w.heap.size := h; omega) _))
    · rw [HRES.out]
      have h := HR6.out
      cases hd : eachS (fun wd r p k => termS k wd r p) (k.dropN 1) with
      | ok l =>
        rw [hd] at h
        exact ⟨sets_blk (b := w.heap.size + 1) HNB.1 [.int .u8 kd, .string ⟨#[]⟩, .bool false, .slice none 0 0, .slice a9 n9 cap9] 0 _ (Fst.setOther h.1 ⟨w.heap.size + 1, 4, none⟩ HNB.1 _), (sets_rep (b := w.heap.size + 1) (D := fun b => w.heap.size + 2 ≤ b) (by omega) [.int .u8 kd, .string ⟨#[]⟩, .bool false, .slice none 0 0, .slice a9 n9 cap9] 0 _ (Rep.setOther (show Rep (fun b => w.heap.size + 2 ≤ b) w6 (encTm (.mk kd ByteArray.empty .zero l)) [.int .u8 kd, .string ⟨#[]⟩, .bool false, .slice none 0 0, .slice a9 n9 cap9] from ⟨_, rfl, _, rfl, by decide, zero_cells (u := .sl l.length (tmsU l) .nil) h.2⟩) ⟨w.heap.size + 1, 4, none⟩ (by simp) _)).mono (fun b hb _ => by have : w.heap.size + 2 ≤ b := hb; omega)⟩
      | error q =>
        rw [hd] at h
        exact sets_blk (b := w.heap.size + 1) HNB.1 [.int .u8 kd, .string ⟨#[]⟩, .bool false, .slice none 0 0, .slice a9 n9 cap9] 0 _ (Fst.setOther h ⟨w.heap.size + 1, 4, none⟩ HNB.1 _)
  · have g1 : (0 : Int) ≤ mn := by omega
    have g2 : ((k.len : Int) == mn + 1) = true := by simpa using hg
    have g3 : ((k.len : Int) != mn + 1) = false := by simp [bne, g2]
    clear hg
    go_wp2_with fail
    clear g1 g2 c0 c1 c2 c3 c4 f0 f1 f2 f3 f4 n0 n1 n2 n3' n4 hm s0 s1 s2 s3 s4 s5 s6 sq
    generalize (w3.alloc (formE 7)).alloc (.cells #[.int .u8 kd, .int .i64 mn] 170) = w4 at *
    generalize w3.heap.size = b3 at *
    obtain ⟨m0, m1, m2, m3, m4⟩ := NodeIn.cells HN4.out
    have HNB : w.heap.size + 1 ≠ fb ∧ w.heap.size ≠ fb ∧ b3 + 1 ≠ fb ∧ b3 + 1 ≠ w.heap.size + 1 := by omega
    haveI ne : Nonempty (Wd (fun x => Ext (fun b => b = fb ∨ b = w.heap.size + 1) w4 x)) := ⟨⟨w4, Ext.refl _ _⟩⟩
    have q0 : ∀ x : Wd (fun x => Ext (fun b => b = fb ∨ b = w.heap.size + 1) w4 x), x.w.cell? ⟨b3 + 1, 0, none⟩ = some (.int .u8 kd) := fun x => x.ok.cellSome (by simpa using HSP.out.cell 0) (fun h => by simp at h; omega)
    have q1 : ∀ x : Wd (fun x => Ext (fun b => b = fb ∨ b = w.heap.size + 1) w4 x), x.w.cell? ⟨w.heap.size, 0, none⟩ = some (.string wd) := fun x => x.ok.cellSome m0 (fun h => by simp at h; omega)
    have q2 : ∀ x : Wd (fun x => Ext (fun b => b = fb ∨ b = w.heap.size + 1) w4 x), x.w.cell? ⟨w.heap.size, 1, none⟩ = some (.slice a k.len cap) := fun x => x.ok.cellSome m1 (fun h => by simp at h; omega)
    have q3 : ∀ x : Wd (fun x => Ext (fun b => b = fb ∨ b = w.heap.size + 1) w4 x), x.w.cell? ⟨w.heap.size, 2, none⟩ = some (.bool true) := fun x => x.ok.cellSome m2 (fun h => by simp at h; omega)
    have q4 : ∀ x : Wd (fun x => Ext (fun b => b = fb ∨ b = w.heap.size + 1) w4 x), x.w.cell? ⟨w.heap.size, 3, none⟩ = some (.int .i64 p) := fun x => x.ok.cellSome m3 (fun h => by simp at h; omega)
    have q5 : ∀ x : Wd (fun x => Ext (fun b => b = fb ∨ b = w.heap.size + 1) w4 x), x.w.cell? ⟨w.heap.size, 4, none⟩ = some (.pointer (some ⟨fb, 0, none⟩)) := fun x => x.ok.cellSome m4 (fun h => by simp at h; omega)
    clear m0 m1 m2 m3 m4
    refine wp_region_steps (S := fun x => Ext (fun b => b = fb ∨ b = w.heap.size + 1) w4 x) [([0, 1, 2], [3]), ([4], [5]), ([6], [])] _ (by kernel_rfl) (by kernel_rfl) rfl (by kernel_rfl) (fun _ d _ _ _ h => by cases d <;> exact h) (Ext.refl _ _).drew ?_
    simp only [segOps, List.filterMap_cons, List.filterMap_nil, List.getElem?_cons_zero, List.getElem?_cons_succ]
    refine wpSegs_cons ?_
    change wpQuiet _ _ _ _ (_ :: _ :: _ :: []) _
    repeat (go_big_quiet_step (fail))
    refine wpQuiet_nil ?_
    refine wpLoud_step rfl (fun K hK => ?_)
    go_simp
    refine (HRS.out _ HX4.out.drew).mono ?_
    rintro e w5 ⟨hx5, xs, rfl, hsh, hres⟩
    have hx5' : Ext (· = fb) w4 w5 := ⟨hx5.os, hx5.tape, hx5.output, hx5.size, hx5.block⟩
    obtain ⟨a9, n9, cap9, rfl⟩ := hsh
    simp only [mkOne] at *
    have hb5 := HB4.out.ext hx5' HNB.1
    have HB5 := Lib.hid hb5
    have HX5 := Lib.hid hx5'
    have HR5 := Lib.hid hres
    refine hK _ _ (hx5'.mono (fun _ _ h => .inl h)) ?_
    clear hK hx5 hx5' hres
    refine wpLoud_nil ?_
    refine wpSegs_cons ?_
    change wpQuiet _ _ _ _ (_ :: []) _
    repeat (go_big_quiet_step (fail))
    refine wpQuiet_nil ?_
    refine wpLoud_step rfl (fun K hK => ?_)
    have c0 := HB5.out.cell 0
    have f0 := HB5.out.frozen 0
    simp only [List.getElem?_toArray, List.getElem?_cons_zero, List.getElem?_cons_succ] at c0
    go_simp
    refine hK _ _ ((HX5.out.mono (fun _ _ h => .inl h)).setCell (p := ⟨w.heap.size + 1, 0, none⟩) (fun _ => .inr rfl) _) ?_
    clear hK
    refine wpLoud_nil ?_
    refine wpSegs_cons ?_
    change wpQuiet _ _ _ _ (_ :: []) _
    repeat (go_big_quiet_step (fail))
    refine wpQuiet_nil ?_
    refine wpLoud_nil ?_
    refine wpSegs_nil ?_
    clear q0 q1 q2 q3 q4 q5 ne c0 f0
    have hb6 := HB5.out.set 0 (.int .u8 kd)
    have HX6 : Hid (Ext (· = fb) w (w5.setCell ⟨w.heap.size + 1, 0, none⟩ (.int .u8 kd))) := Lib.hid (((HX4.out.mono (M' := (· = fb)) (fun _ _ h => h.elim)).trans' HX5.out).setCell (p := ⟨w.heap.size + 1, 0, none⟩) (fun h => by have h : w.heap.size + 1 < w.heap.size := h; omega) _)
    have hz6 : w.heap.size + 1 < w4.heap.size := by rw [HZ5.out]; omega
    have HR6 : Hid (match (eachS (fun wd r p k => termS k wd r p) (k.dropN 1)) with
      | .ok l => Fst (w5.setCell ⟨w.heap.size + 1, 0, none⟩ (.int .u8 kd)) fb false 0 ∧ Rep (fun b => w.heap.size + 2 ≤ b) (w5.setCell ⟨w.heap.size + 1, 0, none⟩ (.int .u8 kd)) (.sl l.length (tmsU l) .nil) [.slice a9 n9 cap9]
      | .error q => Fst (w5.setCell ⟨w.heap.size + 1, 0, none⟩ (.int .u8 kd)) fb true q) := by
      have h := HR5.out
      refine Lib.hid ?_
      cases hd : eachS (fun wd r p k => termS k wd r p) (k.dropN 1) with
      | ok l =>
        rw [hd] at h
        exact ⟨Fst.setOther h.1 ⟨w.heap.size + 1, 0, none⟩ HNB.1 _, Rep.setOther (h.2.mono (D' := fun b => w.heap.size + 2 ≤ b) (fun b hb _ => by have hb : w4.heap.size ≤ b := hb; omega)) ⟨w.heap.size + 1, 0, none⟩ (by simp) _⟩
      | error q =>
        rw [hd] at h
        exact Fst.setOther h ⟨w.heap.size + 1, 0, none⟩ HNB.1 _
    generalize w5.setCell ⟨w.heap.size + 1, 0, none⟩ (.int .u8 kd) = w6 at *
    simp only [List.setIfInBounds_toArray, List.set_cons_zero] at hb6
    have c0 := hb6.cell 0
    have c1 := hb6.cell 1
    have c2 := hb6.cell 2
    have c3 := hb6.cell 3
    have c4 := hb6.cell 4
    have f0 := hb6.frozen 0
    have f1 := hb6.frozen 1
    have f2 := hb6.frozen 2
    have f3 := hb6.frozen 3
    have f4 := hb6.frozen 4
    simp only [List.getElem?_toArray, List.getElem?_cons_zero, List.getElem?_cons_succ] at c0 c1 c2 c3 c4
    clear hb6
    go_wp2_with fail
    refine bodyPost_ret (v := .agg #[.int .u8 kd, .string ⟨#[]⟩, .bool false, .slice none 0 0, .slice a9 n9 cap9]) (by simp [results, Tryz.results27, go_sem, *]) rfl ⟨?_, [.int .u8 kd, .string ⟨#[]⟩, .bool false, .slice none 0 0, .slice a9 n9 cap9], rfl, ⟨rfl, by simp [Value.oneCell']⟩, ?_⟩
    · exact (sets_ext (b := w.heap.size + 1) (fun h => by have : w.heap.size + 1 < w.heap.size := h; omega) [.int .u8 kd, .string ⟨#[]⟩, .bool false, .slice none 0 0, .slice a9 n9 cap9] 0 _ (HX6.out.setCell (p := ⟨w.heap.size + 1, 4, none⟩) (fun h => by have h : w.heap.size + 1 < w.heap.size := h; omega) _))
    · rw [HRES.out]
      have h := HR6.out
      cases hd : eachS (fun wd r p k => termS k wd r p) (k.dropN 1) with
      | ok l =>
        rw [hd] at h
        exact ⟨sets_blk (b := w.heap.size + 1) HNB.1 [.int .u8 kd, .string ⟨#[]⟩, .bool false, .slice none 0 0, .slice a9 n9 cap9] 0 _ (Fst.setOther h.1 ⟨w.heap.size + 1, 4, none⟩ HNB.1 _), (sets_rep (b := w.heap.size + 1) (D := fun b => w.heap.size + 2 ≤ b) (by omega) [.int .u8 kd, .string ⟨#[]⟩, .bool false, .slice none 0 0, .slice a9 n9 cap9] 0 _ (Rep.setOther (show Rep (fun b => w.heap.size + 2 ≤ b) w6 (encTm (.mk kd ByteArray.empty .zero l)) [.int .u8 kd, .string ⟨#[]⟩, .bool false, .slice none 0 0, .slice a9 n9 cap9] from ⟨_, rfl, _, rfl, by decide, zero_cells (u := .sl l.length (tmsU l) .nil) h.2⟩) ⟨w.heap.size + 1, 4, none⟩ (by simp) _)).mono (fun b hb _ => by have : w.heap.size + 2 ≤ b := hb; omega)⟩
      | error q =>
        rw [hd] at h
        exact sets_blk (b := w.heap.size + 1) HNB.1 [.int .u8 kd, .string ⟨#[]⟩, .bool false, .slice none 0 0, .slice a9 n9 cap9] 0 _ (Fst.setOther h ⟨w.heap.size + 1, 4, none⟩ HNB.1 _)

end Go.Proofs.YtmcinpeplkkpfaaGreatDoor

namespace Go.Proofs.YtmcinpeplkkpfaaGreatDoor
open Go.RowKit
set_option linter.unusedVariables false
set_option linter.unusedSimpArgs false
set_option maxRecDepth 100000 in
set_option maxHeartbeats 6000000 in
theorem term_form_bad {n B : Nat} (ih : TermC n) (wd : ByteArray) (kv : Value) (p : Int) (fb : Nat) (k : F) (w : World) (hkn : k.size ≤ n) (hks : k.size ≤ 262144) (hB : B ≤ w.heap.size) (hfb : B ≤ fb) (hF : Fst w fb false 0) (hk : Sl (· < B) w kv k)
    (kd : Nat) (mn : Int) (hform : formV (headW true k) = .tuple #[.agg #[.int .u8 kd, .int .i64 mn], .bool true]) (e1 : wIs (headW true k) [42] = false) (e2 : wIs (headW true k) [107, 97, 112, 112, 97] = false) (hm1 : 0 ≤ mn) (hm2 : mn ≤ 10) (hbad : ¬ (k.len : Int) = mn + 1) :
    Calls Tryz.prog 27 #[nodeV wd kv true p fb] w (RdPost fb (shpN 5) mkAgg encTm (.error p : RR Tm) w) := by
  have hkl := F.len_le_size k
  have HHD := Lib.hid (fun w' (hx : Ext (fun _ => False) w w') => head_any wd kv true p fb k w' (hk.ext hx (fun _ _ h => h)))
  obtain ⟨a, cap, rfl, h1, h2⟩ := hk.shape
  generalize headW true k = s at *
  rw [wIs_iff] at e1 e2
  have e1' : ¬ s.toList = [42] := by simpa using e1
  have e2' : ¬ s.toList = [107, 97, 112, 112, 97] := by simpa using e2
  have hm := form_make
  have s0 := fun w => form_step w 0 (⟨#[43]⟩ : ByteArray) _ rfl rfl
  have s1 := fun w => form_step w 1 (⟨#[61]⟩ : ByteArray) _ rfl rfl
  have s2 := fun w => form_step w 2 (⟨#[60, 61]⟩ : ByteArray) _ rfl rfl
  have s3 := fun w => form_step w 3 (⟨#[110, 111, 116]⟩ : ByteArray) _ rfl rfl
  have s4 := fun w => form_step w 4 (⟨#[97, 110, 100]⟩ : ByteArray) _ rfl rfl
  have s5 := fun w => form_step w 5 (⟨#[111, 114]⟩ : ByteArray) _ rfl rfl
  have s6 := fun w => form_step w 6 (⟨#[105, 102, 102]⟩ : ByteArray) _ rfl rfl
  have sq := fun w => form_ask w s
  rw [hform] at sq
  simp only [Nat.zero_add, Nat.reduceAdd] at s0 s1 s2 s3 s4 s5 s6
  have hx1 := (Ext.refl (fun _ => False) w).alloc (.cells #[.string wd, .slice a k.len cap, .bool true, .int .i64 p, .pointer (some ⟨fb, 0, none⟩)] 57)
  have hx2 := hx1.alloc (.cells #[.int .u8 0, .string ⟨#[]⟩, .bool false, .slice none 0 0, .slice none 0 0] 41)
  have hb2 := Blk.new (w.alloc (.cells #[.string wd, .slice a k.len cap, .bool true, .int .i64 p, .pointer (some ⟨fb, 0, none⟩)] 57)) #[.int .u8 0, .string ⟨#[]⟩, .bool false, .slice none 0 0, .slice none 0 0] 41
  have hn2 := (NodeIn.new w wd (.slice a k.len cap) true p fb).alloc (.cells #[.int .u8 0, .string ⟨#[]⟩, .bool false, .slice none 0 0, .slice none 0 0] 41)
  have hz : (w.alloc (.cells #[.string wd, .slice a k.len cap, .bool true, .int .i64 p, .pointer (some ⟨fb, 0, none⟩)] 57)).heap.size = w.heap.size + 1 := by simp
  have hz2 : ((w.alloc (.cells #[.string wd, .slice a k.len cap, .bool true, .int .i64 p, .pointer (some ⟨fb, 0, none⟩)] 57)).alloc (.cells #[.int .u8 0, .string ⟨#[]⟩, .bool false, .slice none 0 0, .slice none 0 0] 41)).heap.size = w.heap.size + 2 := by simp
  rw [hz] at hb2
  have hF2 := Fst.ext hF hx2 id
  have hfl := Blk.lt hF
  have HZ2 := Lib.hid hz2
  clear hz hz2 hk h1 h2 hx1
  unfold nodeV at *
  clear hform
  go_enter Tryz.func27, Tryz.ntmps27
  go_wp2_with fail
  refine (HHD.out _ hx2).mono ?_
  rintro e w3 ⟨rfl, hx3⟩
  have hb3 := hb2.ext hx3 id
  have hn3 := NodeIn.ext hn2 hx3 id
  have HF3 := Lib.hid (Fst.ext hF2 hx3 id)
  have HX3 := Lib.hid (hx2.trans' hx3)
  have hs3 := hx3.size
  rw [HZ2.out] at hs3
  have l0 : w.heap.size < w3.heap.size := by omega
  have l1 : w.heap.size + 1 < w3.heap.size := by omega
  have c0 := hb3.cell 0
  have c1 := hb3.cell 1
  have c2 := hb3.cell 2
  have c3 := hb3.cell 3
  have c4 := hb3.cell 4
  have f0 := hb3.frozen 0
  have f1 := hb3.frozen 1
  have f2 := hb3.frozen 2
  have f3 := hb3.frozen 3
  have f4 := hb3.frozen 4
  simp only [List.getElem?_toArray, List.getElem?_cons_zero, List.getElem?_cons_succ] at c0 c1 c2 c3 c4
  obtain ⟨n0, n1, n2, n3', n4⟩ := hn3.cells
  clear hx2 hb2 hn2 hF2 hx3
  have hsp := Blk.new (w3.alloc (formE 7)) #[.int .u8 kd, .int .i64 mn] 170
  have hz4 : (w3.alloc (formE 7)).heap.size = w3.heap.size + 1 := by simp
  rw [hz4] at hsp
  have hb4 := (hb3.alloc (formE 7)).alloc (.cells #[.int .u8 kd, .int .i64 mn] 170)
  have hn4 := Blk.alloc (Blk.alloc hn3 (formE 7)) (.cells #[.int .u8 kd, .int .i64 mn] 170)
  have hF4 := Blk.alloc (Blk.alloc HF3.out (formE 7)) (.cells #[.int .u8 kd, .int .i64 mn] 170)
  have hX4 := (HX3.out.alloc (formE 7)).alloc (.cells #[.int .u8 kd, .int .i64 mn] 170)
  have hz5 : ((w3.alloc (formE 7)).alloc (.cells #[.int .u8 kd, .int .i64 mn] 170)).heap.size = w3.heap.size + 2 := by simp
  have HSP := Lib.hid hsp
  have HB4 := Lib.hid hb4
  have HN4 := Lib.hid hn4
  have HF4 := Lib.hid hF4
  have HX4 := Lib.hid hX4
  have HZ5 := Lib.hid hz5
  clear hsp hz4 hb4 hn4 hF4 hX4 hz5 hb3 hn3
  have g2 : ((k.len : Int) == mn + 1) = false := by simpa using hbad
  have g3 : ((k.len : Int) != mn + 1) = true := by simp [bne, g2]
  go_wp2_with fail
  refine (fault_no wd _ true p fb 0 _ ⟨_, _, _, rfl⟩ HF4.out).mono ?_
  rintro e w5 ⟨rfl, hx5, hf5⟩
  have HX5 := Lib.hid ((HX4.out.mono (M' := (· = fb)) (fun _ _ h => h.elim)).trans' hx5)
  have HF5 := Lib.hid hf5
  have hb5 := HB4.out.ext hx5 (by omega)
  clear c0 c1 c2 c3 c4 f0 f1 f2 f3 f4 hx5 hf5
  have c0 := hb5.cell 0
  have c1 := hb5.cell 1
  have c2 := hb5.cell 2
  have c3 := hb5.cell 3
  have c4 := hb5.cell 4
  have f0 := hb5.frozen 0
  have f1 := hb5.frozen 1
  have f2 := hb5.frozen 2
  have f3 := hb5.frozen 3
  have f4 := hb5.frozen 4
  simp only [List.getElem?_toArray, List.getElem?_cons_zero, List.getElem?_cons_succ] at c0 c1 c2 c3 c4
  go_wp2_with fail
  refine bodyPost_ret (v := .agg #[.int .u8 0, .string ⟨#[]⟩, .bool false, .slice none 0 0, .slice none 0 0]) (by simp [results, Tryz.results27, go_sem, *]) rfl ⟨?_, [.int .u8 0, .string ⟨#[]⟩, .bool false, .slice none 0 0, .slice none 0 0], rfl, ⟨rfl, by simp [Value.oneCell']⟩, ?_⟩
  · exact sets_ext (b := w.heap.size + 1) (fun h => by have : w.heap.size + 1 < w.heap.size := h; omega) [.int .u8 0, .string ⟨#[]⟩, .bool false, .slice none 0 0, .slice none 0 0] 0 _ HX5.out
  · exact sets_blk (b := w.heap.size + 1) (by omega) [.int .u8 0, .string ⟨#[]⟩, .bool false, .slice none 0 0, .slice none 0 0] 0 _ HF5.out

end Go.Proofs.YtmcinpeplkkpfaaGreatDoor

namespace Go.Proofs.YtmcinpeplkkpfaaGreatDoor
open Go.RowKit
set_option linter.unusedVariables false
set_option linter.unusedSimpArgs false
set_option maxRecDepth 100000 in
set_option maxHeartbeats 6000000 in
theorem term_none {n B : Nat} (ih : TermC n) (wd : ByteArray) (kv : Value) (p : Int) (fb : Nat) (k : F) (w : World) (hkn : k.size ≤ n) (hks : k.size ≤ 262144) (hB : B ≤ w.heap.size) (hfb : B ≤ fb) (hF : Fst w fb false 0) (hk : Sl (· < B) w kv k) (hs : (headW true k).size ≤ maxLen)
    (hform : formV (headW true k) = .tuple #[.agg #[.int .u8 0, .int .i64 0], .bool false]) (e1 : wIs (headW true k) [42] = false) (e2 : wIs (headW true k) [107, 97, 112, 112, 97] = false) (hfun : isFun (headW true k) = false) :
    Calls Tryz.prog 27 #[nodeV wd kv true p fb] w (RdPost fb (shpN 5) mkAgg encTm (.error p : RR Tm) w) := by
  have hkl := F.len_le_size k
  have HHD := Lib.hid (fun w' (hx : Ext (fun _ => False) w w') => head_any wd kv true p fb k w' (hk.ext hx (fun _ _ h => h)))
  obtain ⟨a, cap, rfl, h1, h2⟩ := hk.shape
  have HFN := Lib.hid (fun w => function_any (headW true k) w hs)
  rw [hfun] at HFN
  clear hfun
  generalize headW true k = s at *
  rw [wIs_iff] at e1 e2
  have e1' : ¬ s.toList = [42] := by simpa using e1
  have e2' : ¬ s.toList = [107, 97, 112, 112, 97] := by simpa using e2
  have hm := form_make
  have s0 := fun w => form_step w 0 (⟨#[43]⟩ : ByteArray) _ rfl rfl
  have s1 := fun w => form_step w 1 (⟨#[61]⟩ : ByteArray) _ rfl rfl
  have s2 := fun w => form_step w 2 (⟨#[60, 61]⟩ : ByteArray) _ rfl rfl
  have s3 := fun w => form_step w 3 (⟨#[110, 111, 116]⟩ : ByteArray) _ rfl rfl
  have s4 := fun w => form_step w 4 (⟨#[97, 110, 100]⟩ : ByteArray) _ rfl rfl
  have s5 := fun w => form_step w 5 (⟨#[111, 114]⟩ : ByteArray) _ rfl rfl
  have s6 := fun w => form_step w 6 (⟨#[105, 102, 102]⟩ : ByteArray) _ rfl rfl
  have sq := fun w => form_ask w s
  rw [hform] at sq
  simp only [Nat.zero_add, Nat.reduceAdd] at s0 s1 s2 s3 s4 s5 s6
  have hx1 := (Ext.refl (fun _ => False) w).alloc (.cells #[.string wd, .slice a k.len cap, .bool true, .int .i64 p, .pointer (some ⟨fb, 0, none⟩)] 57)
  have hx2 := hx1.alloc (.cells #[.int .u8 0, .string ⟨#[]⟩, .bool false, .slice none 0 0, .slice none 0 0] 41)
  have hb2 := Blk.new (w.alloc (.cells #[.string wd, .slice a k.len cap, .bool true, .int .i64 p, .pointer (some ⟨fb, 0, none⟩)] 57)) #[.int .u8 0, .string ⟨#[]⟩, .bool false, .slice none 0 0, .slice none 0 0] 41
  have hn2 := (NodeIn.new w wd (.slice a k.len cap) true p fb).alloc (.cells #[.int .u8 0, .string ⟨#[]⟩, .bool false, .slice none 0 0, .slice none 0 0] 41)
  have hz : (w.alloc (.cells #[.string wd, .slice a k.len cap, .bool true, .int .i64 p, .pointer (some ⟨fb, 0, none⟩)] 57)).heap.size = w.heap.size + 1 := by simp
  have hz2 : ((w.alloc (.cells #[.string wd, .slice a k.len cap, .bool true, .int .i64 p, .pointer (some ⟨fb, 0, none⟩)] 57)).alloc (.cells #[.int .u8 0, .string ⟨#[]⟩, .bool false, .slice none 0 0, .slice none 0 0] 41)).heap.size = w.heap.size + 2 := by simp
  rw [hz] at hb2
  have hF2 := Fst.ext hF hx2 id
  have hfl := Blk.lt hF
  have HZ2 := Lib.hid hz2
  clear hz hz2 hk h1 h2 hx1
  unfold nodeV at *
  clear hform
  go_enter Tryz.func27, Tryz.ntmps27
  go_wp2_with fail
  refine (HHD.out _ hx2).mono ?_
  rintro e w3 ⟨rfl, hx3⟩
  have hb3 := hb2.ext hx3 id
  have hn3 := NodeIn.ext hn2 hx3 id
  have HF3 := Lib.hid (Fst.ext hF2 hx3 id)
  have HX3 := Lib.hid (hx2.trans' hx3)
  have hs3 := hx3.size
  rw [HZ2.out] at hs3
  have l0 : w.heap.size < w3.heap.size := by omega
  have l1 : w.heap.size + 1 < w3.heap.size := by omega
  have c0 := hb3.cell 0
  have c1 := hb3.cell 1
  have c2 := hb3.cell 2
  have c3 := hb3.cell 3
  have c4 := hb3.cell 4
  have f0 := hb3.frozen 0
  have f1 := hb3.frozen 1
  have f2 := hb3.frozen 2
  have f3 := hb3.frozen 3
  have f4 := hb3.frozen 4
  simp only [List.getElem?_toArray, List.getElem?_cons_zero, List.getElem?_cons_succ] at c0 c1 c2 c3 c4
  obtain ⟨n0, n1, n2, n3', n4⟩ := hn3.cells
  clear hx2 hb2 hn2 hF2 hx3
  have hsp := Blk.new (w3.alloc (formE 7)) #[.int .u8 0, .int .i64 0] 170
  have hz4 : (w3.alloc (formE 7)).heap.size = w3.heap.size + 1 := by simp
  rw [hz4] at hsp
  have hb4 := (hb3.alloc (formE 7)).alloc (.cells #[.int .u8 0, .int .i64 0] 170)
  have hn4 := Blk.alloc (Blk.alloc hn3 (formE 7)) (.cells #[.int .u8 0, .int .i64 0] 170)
  have hF4 := Blk.alloc (Blk.alloc HF3.out (formE 7)) (.cells #[.int .u8 0, .int .i64 0] 170)
  have hX4 := (HX3.out.alloc (formE 7)).alloc (.cells #[.int .u8 0, .int .i64 0] 170)
  have hz5 : ((w3.alloc (formE 7)).alloc (.cells #[.int .u8 0, .int .i64 0] 170)).heap.size = w3.heap.size + 2 := by simp
  have HSP := Lib.hid hsp
  have HB4 := Lib.hid hb4
  have HN4 := Lib.hid hn4
  have HF4 := Lib.hid hF4
  have HX4 := Lib.hid hX4
  have HZ5 := Lib.hid hz5
  clear hsp hz4 hb4 hn4 hF4 hX4 hz5 hb3 hn3
  go_wp2_with fail
  refine (HFN.out _).mono ?_
  rintro e w4' ⟨rfl, hx4'⟩
  have HX4 : Hid (Ext (fun _ => False) w w4') := Lib.hid (HX4.out.trans' hx4')
  have HB4 : Hid (Blk w4' (w.heap.size + 1) #[.int .u8 0, .string ⟨#[]⟩, .bool false, .slice none 0 0, .slice none 0 0] 41) := Lib.hid (HB4.out.ext hx4' id)
  have HF4 : Hid (Fst w4' fb false 0) := Lib.hid (Fst.ext HF4.out hx4' id)
  have HN4 : Hid (NodeIn w4' w.heap.size wd (.slice a k.len cap) true p fb) := Lib.hid (NodeIn.ext HN4.out hx4' id)
  have hsp5 := HSP.out.ext hx4' id
  have p0 := hsp5.cell 0
  have p1 := hsp5.cell 1
  simp only [List.getElem?_toArray, List.getElem?_cons_zero, List.getElem?_cons_succ] at p0 p1
  have hb5 := HB4.out
  clear c0 c1 c2 c3 c4 f0 f1 f2 f3 f4 n0 n1 n2 n3' n4 hm s0 s1 s2 s3 s4 s5 s6 sq hsp5
  have c0 := hb5.cell 0
  have c1 := hb5.cell 1
  have c2 := hb5.cell 2
  have c3 := hb5.cell 3
  have c4 := hb5.cell 4
  have f0 := hb5.frozen 0
  have f1 := hb5.frozen 1
  have f2 := hb5.frozen 2
  have f3 := hb5.frozen 3
  have f4 := hb5.frozen 4
  simp only [List.getElem?_toArray, List.getElem?_cons_zero, List.getElem?_cons_succ] at c0 c1 c2 c3 c4
  obtain ⟨n0, n1, n2, n3', n4⟩ := NodeIn.cells HN4.out
  clear hb5 hx4'
  go_wp2_with fail
  refine (fault_no wd _ true p fb 0 _ ⟨_, _, _, rfl⟩ HF4.out).mono ?_
  rintro e w5 ⟨rfl, hx5, hf5⟩
  have HX5 := Lib.hid ((HX4.out.mono (M' := (· = fb)) (fun _ _ h => h.elim)).trans' hx5)
  have HF5 := Lib.hid hf5
  have hb5 := HB4.out.ext hx5 (by omega)
  clear c0 c1 c2 c3 c4 f0 f1 f2 f3 f4 hx5 hf5
  have c0 := hb5.cell 0
  have c1 := hb5.cell 1
  have c2 := hb5.cell 2
  have c3 := hb5.cell 3
  have c4 := hb5.cell 4
  have f0 := hb5.frozen 0
  have f1 := hb5.frozen 1
  have f2 := hb5.frozen 2
  have f3 := hb5.frozen 3
  have f4 := hb5.frozen 4
  simp only [List.getElem?_toArray, List.getElem?_cons_zero, List.getElem?_cons_succ] at c0 c1 c2 c3 c4
  go_wp2_with fail
  refine bodyPost_ret (v := .agg #[.int .u8 0, .string ⟨#[]⟩, .bool false, .slice none 0 0, .slice none 0 0]) (by simp [results, Tryz.results27, go_sem, *]) rfl ⟨?_, [.int .u8 0, .string ⟨#[]⟩, .bool false, .slice none 0 0, .slice none 0 0], rfl, ⟨rfl, by simp [Value.oneCell']⟩, ?_⟩
  · exact sets_ext (b := w.heap.size + 1) (fun h => by have : w.heap.size + 1 < w.heap.size := h; omega) [.int .u8 0, .string ⟨#[]⟩, .bool false, .slice none 0 0, .slice none 0 0] 0 _ HX5.out
  · exact sets_blk (b := w.heap.size + 1) (by omega) [.int .u8 0, .string ⟨#[]⟩, .bool false, .slice none 0 0, .slice none 0 0] 0 _ HF5.out

end Go.Proofs.YtmcinpeplkkpfaaGreatDoor

namespace Go.Proofs.YtmcinpeplkkpfaaGreatDoor
open Go.RowKit
set_option linter.unusedVariables false
set_option linter.unusedSimpArgs false
set_option maxRecDepth 100000 in
set_option maxHeartbeats 6000000 in
theorem term_fun_bad {n B : Nat} (ih : TermC n) (wd : ByteArray) (kv : Value) (p : Int) (fb : Nat) (k : F) (w : World) (hkn : k.size ≤ n) (hks : k.size ≤ 262144) (hB : B ≤ w.heap.size) (hfb : B ≤ fb) (hF : Fst w fb false 0) (hk : Sl (· < B) w kv k) (hs : (headW true k).size ≤ maxLen)
    (hform : formV (headW true k) = .tuple #[.agg #[.int .u8 0, .int .i64 0], .bool false]) (e1 : wIs (headW true k) [42] = false) (e2 : wIs (headW true k) [107, 97, 112, 112, 97] = false) (hfun : isFun (headW true k) = true) (hbad : k.len ≠ 2) :
    Calls Tryz.prog 27 #[nodeV wd kv true p fb] w (RdPost fb (shpN 5) mkAgg encTm (.error p : RR Tm) w) := by
  have hkl := F.len_le_size k
  have HHD := Lib.hid (fun w' (hx : Ext (fun _ => False) w w') => head_any wd kv true p fb k w' (hk.ext hx (fun _ _ h => h)))
  obtain ⟨a, cap, rfl, h1, h2⟩ := hk.shape
  have HFN := Lib.hid (fun w => function_any (headW true k) w hs)
  rw [hfun] at HFN
  clear hfun
  generalize headW true k = s at *
  rw [wIs_iff] at e1 e2
  have e1' : ¬ s.toList = [42] := by simpa using e1
  have e2' : ¬ s.toList = [107, 97, 112, 112, 97] := by simpa using e2
  have hm := form_make
  have s0 := fun w => form_step w 0 (⟨#[43]⟩ : ByteArray) _ rfl rfl
  have s1 := fun w => form_step w 1 (⟨#[61]⟩ : ByteArray) _ rfl rfl
  have s2 := fun w => form_step w 2 (⟨#[60, 61]⟩ : ByteArray) _ rfl rfl
  have s3 := fun w => form_step w 3 (⟨#[110, 111, 116]⟩ : ByteArray) _ rfl rfl
  have s4 := fun w => form_step w 4 (⟨#[97, 110, 100]⟩ : ByteArray) _ rfl rfl
  have s5 := fun w => form_step w 5 (⟨#[111, 114]⟩ : ByteArray) _ rfl rfl
  have s6 := fun w => form_step w 6 (⟨#[105, 102, 102]⟩ : ByteArray) _ rfl rfl
  have sq := fun w => form_ask w s
  rw [hform] at sq
  simp only [Nat.zero_add, Nat.reduceAdd] at s0 s1 s2 s3 s4 s5 s6
  have hx1 := (Ext.refl (fun _ => False) w).alloc (.cells #[.string wd, .slice a k.len cap, .bool true, .int .i64 p, .pointer (some ⟨fb, 0, none⟩)] 57)
  have hx2 := hx1.alloc (.cells #[.int .u8 0, .string ⟨#[]⟩, .bool false, .slice none 0 0, .slice none 0 0] 41)
  have hb2 := Blk.new (w.alloc (.cells #[.string wd, .slice a k.len cap, .bool true, .int .i64 p, .pointer (some ⟨fb, 0, none⟩)] 57)) #[.int .u8 0, .string ⟨#[]⟩, .bool false, .slice none 0 0, .slice none 0 0] 41
  have hn2 := (NodeIn.new w wd (.slice a k.len cap) true p fb).alloc (.cells #[.int .u8 0, .string ⟨#[]⟩, .bool false, .slice none 0 0, .slice none 0 0] 41)
  have hz : (w.alloc (.cells #[.string wd, .slice a k.len cap, .bool true, .int .i64 p, .pointer (some ⟨fb, 0, none⟩)] 57)).heap.size = w.heap.size + 1 := by simp
  have hz2 : ((w.alloc (.cells #[.string wd, .slice a k.len cap, .bool true, .int .i64 p, .pointer (some ⟨fb, 0, none⟩)] 57)).alloc (.cells #[.int .u8 0, .string ⟨#[]⟩, .bool false, .slice none 0 0, .slice none 0 0] 41)).heap.size = w.heap.size + 2 := by simp
  rw [hz] at hb2
  have hF2 := Fst.ext hF hx2 id
  have hfl := Blk.lt hF
  have HZ2 := Lib.hid hz2
  clear hz hz2 hk h1 h2 hx1
  unfold nodeV at *
  clear hform
  go_enter Tryz.func27, Tryz.ntmps27
  go_wp2_with fail
  refine (HHD.out _ hx2).mono ?_
  rintro e w3 ⟨rfl, hx3⟩
  have hb3 := hb2.ext hx3 id
  have hn3 := NodeIn.ext hn2 hx3 id
  have HF3 := Lib.hid (Fst.ext hF2 hx3 id)
  have HX3 := Lib.hid (hx2.trans' hx3)
  have hs3 := hx3.size
  rw [HZ2.out] at hs3
  have l0 : w.heap.size < w3.heap.size := by omega
  have l1 : w.heap.size + 1 < w3.heap.size := by omega
  have c0 := hb3.cell 0
  have c1 := hb3.cell 1
  have c2 := hb3.cell 2
  have c3 := hb3.cell 3
  have c4 := hb3.cell 4
  have f0 := hb3.frozen 0
  have f1 := hb3.frozen 1
  have f2 := hb3.frozen 2
  have f3 := hb3.frozen 3
  have f4 := hb3.frozen 4
  simp only [List.getElem?_toArray, List.getElem?_cons_zero, List.getElem?_cons_succ] at c0 c1 c2 c3 c4
  obtain ⟨n0, n1, n2, n3', n4⟩ := hn3.cells
  clear hx2 hb2 hn2 hF2 hx3
  have hsp := Blk.new (w3.alloc (formE 7)) #[.int .u8 0, .int .i64 0] 170
  have hz4 : (w3.alloc (formE 7)).heap.size = w3.heap.size + 1 := by simp
  rw [hz4] at hsp
  have hb4 := (hb3.alloc (formE 7)).alloc (.cells #[.int .u8 0, .int .i64 0] 170)
  have hn4 := Blk.alloc (Blk.alloc hn3 (formE 7)) (.cells #[.int .u8 0, .int .i64 0] 170)
  have hF4 := Blk.alloc (Blk.alloc HF3.out (formE 7)) (.cells #[.int .u8 0, .int .i64 0] 170)
  have hX4 := (HX3.out.alloc (formE 7)).alloc (.cells #[.int .u8 0, .int .i64 0] 170)
  have hz5 : ((w3.alloc (formE 7)).alloc (.cells #[.int .u8 0, .int .i64 0] 170)).heap.size = w3.heap.size + 2 := by simp
  have HSP := Lib.hid hsp
  have HB4 := Lib.hid hb4
  have HN4 := Lib.hid hn4
  have HF4 := Lib.hid hF4
  have HX4 := Lib.hid hX4
  have HZ5 := Lib.hid hz5
  clear hsp hz4 hb4 hn4 hF4 hX4 hz5 hb3 hn3
  go_wp2_with fail
  refine (HFN.out _).mono ?_
  rintro e w4' ⟨rfl, hx4'⟩
  have hs4' := hx4'.size
  rw [HZ5.out] at hs4'
  have hb5 := HB4.out.ext hx4' id
  have hn5 := NodeIn.ext HN4.out hx4' id
  have hsp5 := HSP.out.ext hx4' id
  have p0 := hsp5.cell 0
  have p1 := hsp5.cell 1
  have pf0 := hsp5.frozen 0
  have pf1 := hsp5.frozen 1
  simp only [List.getElem?_toArray, List.getElem?_cons_zero, List.getElem?_cons_succ] at p0 p1
  have HZ6 : Hid (w3.heap.size + 2 ≤ w4'.heap.size) := Lib.hid hs4'
  have hX6 := ((((HX4.out.mono (M' := fun _ => False) (fun _ _ h => h)).trans' hx4').setCell (p := ⟨w3.heap.size + 1, 0, none⟩) (fun h => by have h : w3.heap.size + 1 < w.heap.size := h; omega) (.int .u8 7)).setCell (p := ⟨w3.heap.size + 1, 1, none⟩) (fun h => by have h : w3.heap.size + 1 < w.heap.size := h; omega) (.int .i64 1)).setCell (p := ⟨w.heap.size + 1, 1, none⟩) (fun h => by have h : w.heap.size + 1 < w.heap.size := h; omega) (.string s)
  have hF6 : Fst (((w4'.setCell ⟨w3.heap.size + 1, 0, none⟩ (.int .u8 7)).setCell ⟨w3.heap.size + 1, 1, none⟩ (.int .i64 1)).setCell ⟨w.heap.size + 1, 1, none⟩ (.string s)) fb false 0 := (((Fst.ext HF4.out hx4' id).setOther ⟨w3.heap.size + 1, 0, none⟩ (by simp; omega) _).setOther ⟨w3.heap.size + 1, 1, none⟩ (by simp; omega) _).setOther ⟨w.heap.size + 1, 1, none⟩ (by simp; omega) _
  have hn6 : NodeIn (((w4'.setCell ⟨w3.heap.size + 1, 0, none⟩ (.int .u8 7)).setCell ⟨w3.heap.size + 1, 1, none⟩ (.int .i64 1)).setCell ⟨w.heap.size + 1, 1, none⟩ (.string s)) w.heap.size wd (.slice a k.len cap) true p fb := Blk.setOther (Blk.setOther (Blk.setOther hn5 ⟨w3.heap.size + 1, 0, none⟩ (by simp; omega) _) ⟨w3.heap.size + 1, 1, none⟩ (by simp; omega) _) ⟨w.heap.size + 1, 1, none⟩ (by simp) _
  have hsp6 := Blk.setOther ((hsp5.set 0 (.int .u8 7)).set 1 (.int .i64 1)) ⟨w.heap.size + 1, 1, none⟩ (by simp; omega) (.string s)
  have hb6 := (Blk.setOther (Blk.setOther hb5 ⟨w3.heap.size + 1, 0, none⟩ (by simp; omega) (.int .u8 7)) ⟨w3.heap.size + 1, 1, none⟩ (by simp; omega) (.int .i64 1)).set 1 (.string s)
  have hz6 : (((w4'.setCell ⟨w3.heap.size + 1, 0, none⟩ (.int .u8 7)).setCell ⟨w3.heap.size + 1, 1, none⟩ (.int .i64 1)).setCell ⟨w.heap.size + 1, 1, none⟩ (.string s)).heap.size = w4'.heap.size := by simp [World.setCell]
  simp only [List.setIfInBounds_toArray, List.set_cons_succ, List.set_cons_zero] at hsp6 hb6
  have l2 : w.heap.size < w4'.heap.size := by omega
  have l3 : w.heap.size + 1 < w4'.heap.size := by omega
  have l4 : w3.heap.size + 1 < w4'.heap.size := by omega
  clear c0 c1 c2 c3 c4 f0 f1 f2 f3 f4 n0 n1 n2 n3' n4 hm s0 s1 s2 s3 s4 s5 s6 sq hsp5
  have c0 := hb5.cell 0
  have c1 := hb5.cell 1
  have c2 := hb5.cell 2
  have c3 := hb5.cell 3
  have c4 := hb5.cell 4
  have f0 := hb5.frozen 0
  have f1 := hb5.frozen 1
  have f2 := hb5.frozen 2
  have f3 := hb5.frozen 3
  have f4 := hb5.frozen 4
  simp only [List.getElem?_toArray, List.getElem?_cons_zero, List.getElem?_cons_succ] at c0 c1 c2 c3 c4
  obtain ⟨n0, n1, n2, n3', n4⟩ := hn5.cells
  have HSP6 := Lib.hid hsp6
  have HB6 := Lib.hid hb6
  have HN6 := Lib.hid hn6
  have HF6 := Lib.hid hF6
  have HX6 := Lib.hid hX6
  have HZ7 := Lib.hid hz6
  clear hsp6 hb6 hn6 hF6 hX6 hz6 hb5 hn5 hx4' hs4' HSP HB4 HN4 HF4 HX4 HZ5
  have g2 : ((k.len : Int) == 2) = false := by simp; omega
  have g3 : ((k.len : Int) != 2) = true := by simp; omega
  clear hbad
  go_wp2_with fail
  clear c0 c1 c2 c3 c4 f0 f1 f2 f3 f4 n0 n1 n2 n3' n4 p0 p1 pf0 pf1
  have HZ5 : Hid (w3.heap.size + 2 ≤ (((w4'.setCell ⟨w3.heap.size + 1, 0, none⟩ (.int .u8 7)).setCell ⟨w3.heap.size + 1, 1, none⟩ (.int .i64 1)).setCell ⟨w.heap.size + 1, 1, none⟩ (.string s)).heap.size) := Lib.hid (by rw [HZ7.out]; exact HZ6.out)
  clear HZ6 HZ7
  generalize ((w4'.setCell ⟨w3.heap.size + 1, 0, none⟩ (.int .u8 7)).setCell ⟨w3.heap.size + 1, 1, none⟩ (.int .i64 1)).setCell ⟨w.heap.size + 1, 1, none⟩ (.string s) = w4 at *
  clear l2 l3 l4
  generalize w3.heap.size = b3 at *
  have HSP : Hid (Blk w4 (b3 + 1) #[.int .u8 7, .int .i64 1] 170) := HSP6
  have HB4 : Hid (Blk w4 (w.heap.size + 1) #[.int .u8 0, .string s, .bool false, .slice none 0 0, .slice none 0 0] 41) := HB6
  have HN4 : Hid (NodeIn w4 w.heap.size wd (.slice a k.len cap) true p fb) := HN6
  have HF4 : Hid (Fst w4 fb false 0) := HF6
  have HX4 : Hid (Ext (fun _ => False) w w4) := HX6
  clear HSP6 HB6 HN6 HF6 HX6
  refine (fault_no wd _ true p fb 0 _ ⟨_, _, _, rfl⟩ HF4.out).mono ?_
  rintro e w5 ⟨rfl, hx5, hf5⟩
  have HX5 := Lib.hid ((HX4.out.mono (M' := (· = fb)) (fun _ _ h => h.elim)).trans' hx5)
  have HF5 := Lib.hid hf5
  have hb5 := HB4.out.ext hx5 (by omega)
  clear hx5 hf5
  have c0 := hb5.cell 0
  have c1 := hb5.cell 1
  have c2 := hb5.cell 2
  have c3 := hb5.cell 3
  have c4 := hb5.cell 4
  have f0 := hb5.frozen 0
  have f1 := hb5.frozen 1
  have f2 := hb5.frozen 2
  have f3 := hb5.frozen 3
  have f4 := hb5.frozen 4
  simp only [List.getElem?_toArray, List.getElem?_cons_zero, List.getElem?_cons_succ] at c0 c1 c2 c3 c4
  go_wp2_with fail
  refine bodyPost_ret (v := .agg #[.int .u8 0, .string ⟨#[]⟩, .bool false, .slice none 0 0, .slice none 0 0]) (by simp [results, Tryz.results27, go_sem, *]) rfl ⟨?_, [.int .u8 0, .string ⟨#[]⟩, .bool false, .slice none 0 0, .slice none 0 0], rfl, ⟨rfl, by simp [Value.oneCell']⟩, ?_⟩
  · exact sets_ext (b := w.heap.size + 1) (fun h => by have : w.heap.size + 1 < w.heap.size := h; omega) [.int .u8 0, .string ⟨#[]⟩, .bool false, .slice none 0 0, .slice none 0 0] 0 _ HX5.out
  · exact sets_blk (b := w.heap.size + 1) (by omega) [.int .u8 0, .string ⟨#[]⟩, .bool false, .slice none 0 0, .slice none 0 0] 0 _ HF5.out

end Go.Proofs.YtmcinpeplkkpfaaGreatDoor
