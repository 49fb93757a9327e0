/- Texts put together by wip/shake.py: PTopF, LexW1: the walks and the laws that the claim's last theorem rests on. -/
import Derived.Test.YtmcinpeplkkpfaaGreatDoorZ19
import Derived.Test.YtmcinpeplkkpfaaGreatDoorRows
import Derived.Test.YtmcinpeplkkpfaaGreatDoorZ7
import Derived.Defers
import Derived.Recover
import Derived.BigQuiet
import Derived.Deep.LoopGhost
import Derived.IntWalk
namespace Go.Proofs.YtmcinpeplkkpfaaGreatDoor
open Go.RowKit
set_option linter.unusedVariables false
set_option linter.unusedSimpArgs false
theorem len22 {xs : List Value} (h : shpN 22 xs) : ∃ x0 x1 x2 x3 x4 x5 x6 x7 x8 x9 x10 x11 x12 x13 x14 x15 x16 x17 x18 x19 x20 x21, xs = [x0, x1, x2, x3, x4, x5, x6, x7, x8, x9, x10, x11, x12, x13, x14, x15, x16, x17, x18, x19, x20, x21] ∧ x0.oneCell' = true ∧ x1.oneCell' = true ∧ x2.oneCell' = true ∧ x3.oneCell' = true ∧ x4.oneCell' = true ∧ x5.oneCell' = true ∧ x6.oneCell' = true ∧ x7.oneCell' = true ∧ x8.oneCell' = true ∧ x9.oneCell' = true ∧ x10.oneCell' = true ∧ x11.oneCell' = true ∧ x12.oneCell' = true ∧ x13.oneCell' = true ∧ x14.oneCell' = true ∧ x15.oneCell' = true ∧ x16.oneCell' = true ∧ x17.oneCell' = true ∧ x18.oneCell' = true ∧ x19.oneCell' = true ∧ x20.oneCell' = true ∧ x21.oneCell' = true := by
  obtain ⟨hl, hc⟩ := h
  match xs, hl with
  | [x0, x1, x2, x3, x4, x5, x6, x7, x8, x9, x10, x11, x12, x13, x14, x15, x16, x17, x18, x19, x20, x21], _ => exact ⟨x0, x1, x2, x3, x4, x5, x6, x7, x8, x9, x10, x11, x12, x13, x14, x15, x16, x17, x18, x19, x20, x21, rfl, hc _ (by simp), hc _ (by simp), hc _ (by simp), hc _ (by simp), hc _ (by simp), hc _ (by simp), hc _ (by simp), hc _ (by simp), hc _ (by simp), hc _ (by simp), hc _ (by simp), hc _ (by simp), hc _ (by simp), hc _ (by simp), hc _ (by simp), hc _ (by simp), hc _ (by simp), hc _ (by simp), hc _ (by simp), hc _ (by simp), hc _ (by simp), hc _ (by simp)⟩

theorem arrN22 {cs : Array Value} (hn : cs.size = 22) (h : ∀ x ∈ cs, x.oneCell' = true) : ∃ x0 x1 x2 x3 x4 x5 x6 x7 x8 x9 x10 x11 x12 x13 x14 x15 x16 x17 x18 x19 x20 x21, cs = #[x0, x1, x2, x3, x4, x5, x6, x7, x8, x9, x10, x11, x12, x13, x14, x15, x16, x17, x18, x19, x20, x21] ∧ x0.oneCell' = true ∧ x1.oneCell' = true ∧ x2.oneCell' = true ∧ x3.oneCell' = true ∧ x4.oneCell' = true ∧ x5.oneCell' = true ∧ x6.oneCell' = true ∧ x7.oneCell' = true ∧ x8.oneCell' = true ∧ x9.oneCell' = true ∧ x10.oneCell' = true ∧ x11.oneCell' = true ∧ x12.oneCell' = true ∧ x13.oneCell' = true ∧ x14.oneCell' = true ∧ x15.oneCell' = true ∧ x16.oneCell' = true ∧ x17.oneCell' = true ∧ x18.oneCell' = true ∧ x19.oneCell' = true ∧ x20.oneCell' = true ∧ x21.oneCell' = true := by
  obtain ⟨x0, x1, x2, x3, x4, x5, x6, x7, x8, x9, x10, x11, x12, x13, x14, x15, x16, x17, x18, x19, x20, x21, e, h⟩ := len22 (xs := cs.toList) ⟨by simpa using hn, fun x hx => h x (by simpa using hx)⟩
  exact ⟨x0, x1, x2, x3, x4, x5, x6, x7, x8, x9, x10, x11, x12, x13, x14, x15, x16, x17, x18, x19, x20, x21, Array.ext' e, h⟩

def encFu (f : Fu) : U := f.u .nil

theorem Fu.u_app : ∀ (f : Fu) (r x : U), (f.u r).app x = f.u (r.app x)
  | ⟨_, _, t, e⟩, r, x => by
    show U.str _ (U.sl _ _ ((t.u (e.u r)).app x)) = _
    rw [Ty.u_app, Ex.u_app]; rfl

theorem luFu : LU encFu fusU := LU.of rfl fun a l => by
  show a.u (fusU l) = (a.u .nil).app (fusU l)
  rw [Fu.u_app]; rfl

theorem eltFu : Elt Tryz.prog 26 128 22 376 := elt_of Tryz.underlying26 (by kernel_rfl) (by decide)

theorem body_enters : ∀ args w, (callFunc 53 args).run Tryz.prog w = .ok (.enter 53 args) w := enters_of Tryz.func53 (by kernel_rfl) rfl

def PgF (base : Nat) (w : World) (pb : Nat) (fs : List Fu) : Prop := ∃ v xs, Blk w pb #[.slice none 0 0, .slice none 0 0, v, .slice none 0 0] 29 ∧ w.ownsRow base 128 22 v fs.length xs ∧ Rep (fun b => base ≤ b ∧ v.ownBlock ≠ some b) w (fusU fs) xs

def TopF (fb pb base : Nat) (fs : List Fu) (res : RR Fu) (w : World) (e : Ending) (w' : World) : Prop :=
  e = .returned (.tuple #[]) ∧ Ext (fun b => b = fb ∨ b = pb ∨ base ≤ b) w w' ∧ match res with
    | .ok f => Fst w' fb false 0 ∧ PgF base w' pb (fs ++ [f])
    | .error q => Fst w' fb true q

theorem quiet_load {P : Program} {C : World → Prop} {a : Act} {o : Oper} {next : Act → Prop} {t : TypeId} {x : Operand} {b : Nat} {cs : List Value} {T : TypeId} (ho : o.op = .load t x) (hp : a.eval x = .pointer (some ⟨b, 0, none⟩))
    (ha : ∀ w, (isAgg t).run P w = .ok true w) (hs : ∀ w, (sizeOf t).run P w = .ok cs.length w) (hb : ∀ w, C w → Blk w b cs.toArray T) (h : next (a.put o.dst (.agg cs.toArray))) : o.quiet P a C next :=
  ⟨.agg cs.toArray, fun w hw => by
    have hl : (loadCells ⟨b, 0, none⟩ cs.length).run P w = .ok cs.toArray w := run_loadCells_list w ⟨b, 0, none⟩ cs (fun j v hj => by
      rw [Addr.add_lit, Nat.zero_add, (hb w hw).cell j]; simpa using hj)
    have h1 : (loadVar t ⟨b, 0, none⟩).run P w = .ok (.agg cs.toArray) w := by
      simp only [loadVar, Sem.run_bind, ha, Result.andThen, if_true, hs]
      simp [hl]
    have h2 : (execOp a.eval o).run P w = .ok (.value (.agg cs.toArray)) w := by
      unfold execOp
      rw [ho]
      simp only [Instr.loadAt, hp]
      simp [Instr.sureAddr, h1]
    unfold Oper.quietAt
    rw [h2]
    exact ⟨rfl, rfl⟩, h⟩

theorem ownsRow_slice {w : World} {base e size n : Nat} {v : Value} {xs : List Value} (h : w.ownsRow base e size v n xs) : ∃ a m c, v = .slice a m c := by
  rcases h.2 with ⟨rfl, _⟩ | ⟨g0, cap0, _, rfl, _⟩
  · exact ⟨_, _, _, rfl⟩
  · exact ⟨_, _, _, rfl⟩

set_option maxRecDepth 100000 in
set_option maxHeartbeats 2000000 in
theorem top_fun {B base : Nat} (wd : ByteArray) (kv : Value) (p : Int) (fb pb : Nat) (k : F) (w : World) (fs : List Fu) (hks : k.size ≤ 262144) (hB : B ≤ w.heap.size) (hfb : B ≤ fb) (hpb : B ≤ pb) (hne : pb ≠ fb) (hfbase : fb < base) (hpbase : pb < base) (hbase : base ≤ w.heap.size)
    (hF : Fst w fb false 0) (hk : Sl (· < B) w kv k) (hP : PgF base w pb fs) (hfs : fs.length ≤ 262144) (e1 : wIs (headW true k) [102, 117, 110] = true)
    (HBODY : ∀ wd1 r1 p1 k1, k.get 4 = some (wd1, r1, p1, k1) → Reads1 B fb 53 (shpN 11) mkAgg encEx (fun wd r p k => bodyOf r p k (bodyS k)) wd1 r1 p1 k1) :
    Calls Tryz.prog 20 #[nodeV wd kv true p fb, .pointer (some ⟨pb, 0, none⟩)] w (TopF fb pb base fs (funB p k) w) := by
  have hkl := F.len_le_size k
  have HHD := Lib.hid (fun w' (hx : Ext (fun _ => False) w w') => head_any wd kv true p fb k w' (hk.ext hx (fun _ _ h => h)))
  obtain ⟨a, cap, rfl, h1, h2⟩ := hk.shape
  have HK := Lib.hid hk
  obtain ⟨v, xs, hbp, hown, hrep⟩ := hP
  have hvo := hown.lt
  obtain ⟨av, mv, cv, hv⟩ := ownsRow_slice hown
  obtain ⟨res, hres0⟩ : ∃ res, res = funB p k := ⟨_, rfl⟩
  rw [← hres0]
  have HRES := Lib.hid hres0
  have HBP := Lib.hid hbp
  have HOWN := Lib.hid hown
  have HREP := Lib.hid hrep
  have HVO := Lib.hid hvo
  have HVV := Lib.hid hv
  clear hres0 hbp hown hrep hvo hv
  generalize headW true k = s at *
  rw [wIs_iff] at e1
  have e1' : s.toList = [102, 117, 110] := by simpa using e1
  have hx1 := (Ext.refl (fun _ => False) w).alloc (.cells #[.string wd, .slice a k.len cap, .bool true, .int .i64 p, .pointer (some ⟨fb, 0, none⟩)] 57)
  have hn1 := NodeIn.new w wd (.slice a k.len cap) true p fb
  have hz : (w.alloc (.cells #[.string wd, .slice a k.len cap, .bool true, .int .i64 p, .pointer (some ⟨fb, 0, none⟩)] 57)).heap.size = w.heap.size + 1 := by simp
  have hF1 := Fst.ext hF hx1 id
  have hfl := Blk.lt hF
  have HX1 := Lib.hid hx1
  have HN1 := Lib.hid hn1
  have HF1 := Lib.hid hF1
  have HZ1 := Lib.hid hz
  clear hk h1 h2 hx1 hn1 hF1 hz
  unfold nodeV at *
  go_enter Tryz.func20, Tryz.ntmps20
  go_wp2_with fail
  refine (HHD.out _ HX1.out).mono ?_
  rintro e w3 ⟨rfl, hx3⟩
  have hn3 := NodeIn.ext HN1.out hx3 id
  have HF3 := Lib.hid (Fst.ext HF1.out hx3 id)
  have HX3 := Lib.hid (HX1.out.trans' hx3)
  have hs3 := hx3.size
  rw [HZ1.out] at hs3
  obtain ⟨n0, n1, n2, n3', n4⟩ := hn3.cells
  clear hx3 HHD
  go_upto_region 12 with fail
  clear n0 n1 n2 n3' n4
  have hb4 := Blk.new w3 #[.string ⟨#[]⟩, .slice none 0 0, .bool false, .string ⟨#[]⟩, .int .u8 0, .string ⟨#[]⟩, .bool false, .slice none 0 0, .slice none 0 0, .slice none 0 0, .slice none 0 0, .int .u8 0, .string ⟨#[]⟩, .slice none 0 0, .slice none 0 0, .int .u8 0, .string ⟨#[]⟩, .bool false, .slice none 0 0, .bool false, .slice none 0 0, .slice none 0 0] 128
  have hn4 := Blk.alloc hn3 (.cells #[.string ⟨#[]⟩, .slice none 0 0, .bool false, .string ⟨#[]⟩, .int .u8 0, .string ⟨#[]⟩, .bool false, .slice none 0 0, .slice none 0 0, .slice none 0 0, .slice none 0 0, .int .u8 0, .string ⟨#[]⟩, .slice none 0 0, .slice none 0 0, .int .u8 0, .string ⟨#[]⟩, .bool false, .slice none 0 0, .bool false, .slice none 0 0, .slice none 0 0] 128)
  have hF4 := Blk.alloc HF3.out (.cells #[.string ⟨#[]⟩, .slice none 0 0, .bool false, .string ⟨#[]⟩, .int .u8 0, .string ⟨#[]⟩, .bool false, .slice none 0 0, .slice none 0 0, .slice none 0 0, .slice none 0 0, .int .u8 0, .string ⟨#[]⟩, .slice none 0 0, .slice none 0 0, .int .u8 0, .string ⟨#[]⟩, .bool false, .slice none 0 0, .bool false, .slice none 0 0, .slice none 0 0] 128)
  have hX4 := HX3.out.alloc (.cells #[.string ⟨#[]⟩, .slice none 0 0, .bool false, .string ⟨#[]⟩, .int .u8 0, .string ⟨#[]⟩, .bool false, .slice none 0 0, .slice none 0 0, .slice none 0 0, .slice none 0 0, .int .u8 0, .string ⟨#[]⟩, .slice none 0 0, .slice none 0 0, .int .u8 0, .string ⟨#[]⟩, .bool false, .slice none 0 0, .bool false, .slice none 0 0, .slice none 0 0] 128)
  have HB0 := Lib.hid hb4
  have HN4 : Hid (NodeIn (w3.alloc (.cells #[.string ⟨#[]⟩, .slice none 0 0, .bool false, .string ⟨#[]⟩, .int .u8 0, .string ⟨#[]⟩, .bool false, .slice none 0 0, .slice none 0 0, .slice none 0 0, .slice none 0 0, .int .u8 0, .string ⟨#[]⟩, .slice none 0 0, .slice none 0 0, .int .u8 0, .string ⟨#[]⟩, .bool false, .slice none 0 0, .bool false, .slice none 0 0, .slice none 0 0] 128)) w.heap.size wd (.slice a k.len cap) true p fb) := Lib.hid hn4
  have HF4 : Hid (Fst (w3.alloc (.cells #[.string ⟨#[]⟩, .slice none 0 0, .bool false, .string ⟨#[]⟩, .int .u8 0, .string ⟨#[]⟩, .bool false, .slice none 0 0, .slice none 0 0, .slice none 0 0, .slice none 0 0, .int .u8 0, .string ⟨#[]⟩, .slice none 0 0, .slice none 0 0, .int .u8 0, .string ⟨#[]⟩, .bool false, .slice none 0 0, .bool false, .slice none 0 0, .slice none 0 0] 128)) fb false 0) := Lib.hid hF4
  have HX4 := Lib.hid hX4
  clear hb4 hn4 hF4 hX4 hn3 HF3 HX3 HX1 HN1 HF1 HZ1
  go_wp2_with fail
  generalize w3.alloc (.cells #[.string ⟨#[]⟩, .slice none 0 0, .bool false, .string ⟨#[]⟩, .int .u8 0, .string ⟨#[]⟩, .bool false, .slice none 0 0, .slice none 0 0, .slice none 0 0, .slice none 0 0, .int .u8 0, .string ⟨#[]⟩, .slice none 0 0, .slice none 0 0, .int .u8 0, .string ⟨#[]⟩, .bool false, .slice none 0 0, .bool false, .slice none 0 0, .slice none 0 0] 128) = w4 at *
  have hkb : w.heap.size + 1 ≤ w3.heap.size := hs3
  clear hs3
  generalize w3.heap.size = kb at *
  obtain ⟨m0, m1, m2, m3, m4⟩ := NodeIn.cells HN4.out
  haveI ne : Nonempty (Wd (fun x => Ext (fun _ => False) w4 x)) := ⟨⟨w4, Ext.refl _ _⟩⟩
  have q0 : ∀ x : (Wd (fun x => Ext (fun _ => False) w4 x)), x.w.cell? ⟨w.heap.size, 0, none⟩ = some (.string wd) := fun x => x.ok.cellSome m0 id
  have q1 : ∀ x : (Wd (fun x => Ext (fun _ => False) w4 x)), x.w.cell? ⟨w.heap.size, 1, none⟩ = some (.slice a k.len cap) := fun x => x.ok.cellSome m1 id
  have q2 : ∀ x : (Wd (fun x => Ext (fun _ => False) w4 x)), x.w.cell? ⟨w.heap.size, 2, none⟩ = some (.bool true) := fun x => x.ok.cellSome m2 id
  have q3 : ∀ x : (Wd (fun x => Ext (fun _ => False) w4 x)), x.w.cell? ⟨w.heap.size, 3, none⟩ = some (.int .i64 p) := fun x => x.ok.cellSome m3 id
  have q4 : ∀ x : (Wd (fun x => Ext (fun _ => False) w4 x)), x.w.cell? ⟨w.heap.size, 4, none⟩ = some (.pointer (some ⟨fb, 0, none⟩)) := fun x => x.ok.cellSome m4 id
  clear m0 m1 m2 m3 m4
  refine wp_region_steps (S := fun x => Ext (fun _ => False) w4 x) [([0, 1, 3, 5, 7], [2]), ([], [4]), ([], [6]), ([], [8]), ([], [9])] _ (by kernel_rfl) (by kernel_rfl) rfl (by kernel_rfl) (fun _ d _ _ _ h => by cases d <;> exact h) (Ext.refl _ _).drew ?_
  simp only [segOps, List.filterMap_cons, List.filterMap_nil, List.getElem?_cons_zero, List.getElem?_cons_succ]
  refine wpSegs_cons ?_
  change wpQuiet _ _ _ _ (_ :: _ :: _ :: _ :: _ ::  []) _
  repeat (go_big_quiet_step (fail))
  refine wpQuiet_nil ?_
  refine wpLoud_step rfl (fun K hK => ?_)
  go_simp
  refine (intoStr_mk _ _ _ ⟨_, rfl⟩ ⟨_, rfl⟩).mono ?_
  rintro e v1 ⟨br1, bt1, rfl, hx, ⟨tr1, hr⟩, ⟨tt1, ht⟩, hg, hh⟩
  have hx : Ext (fun _ => False) w4 v1 := ⟨hx.os, hx.tape, hx.output, hx.size, hx.block⟩
  have hg1 : w4.heap.size ≤ br1 := hg
  have hh1 : w4.heap.size ≤ bt1 := hh
  have y1 := hx.size
  have HV1 : Hid (Ext (fun _ => False) w4 v1) := Lib.hid (hx)
  have HR1 := Lib.hid hr
  have HT1 := Lib.hid ht
  refine hK _ _ HV1.out ?_
  clear hK hx hr ht hg hh
  refine wpLoud_nil ?_
  refine wpSegs_cons ?_
  refine wpQuiet_nil ?_
  refine wpLoud_step rfl (fun K hK => ?_)
  go_simp
  refine (intoPms_mk _ _ _ ⟨_, rfl⟩ ⟨_, rfl⟩).mono ?_
  rintro e v2 ⟨br2, bt2, rfl, hx, ⟨tr2, hr⟩, ⟨tt2, ht⟩, hg, hh⟩
  have hx : Ext (fun _ => False) v1 v2 := ⟨hx.os, hx.tape, hx.output, hx.size, hx.block⟩
  have hg2 : v1.heap.size ≤ br2 := hg
  have hh2 : v1.heap.size ≤ bt2 := hh
  have y2 := hx.size
  have HV2 : Hid (Ext (fun _ => False) w4 v2) := Lib.hid (HV1.out.trans' hx)
  have HR1 := Lib.hid (HR1.out.ext hx id)
  have HT1 := Lib.hid (HT1.out.ext hx id)
  have HR2 := Lib.hid hr
  have HT2 := Lib.hid ht
  refine hK _ _ HV2.out ?_
  clear hK hx hr ht hg hh
  refine wpLoud_nil ?_
  refine wpSegs_cons ?_
  refine wpQuiet_nil ?_
  refine wpLoud_step rfl (fun K hK => ?_)
  go_simp
  refine (intoTy_mk _ _ _ ⟨_, rfl⟩ ⟨_, rfl⟩).mono ?_
  rintro e v3 ⟨br3, bt3, rfl, hx, ⟨tr3, hr⟩, ⟨tt3, ht⟩, hg, hh⟩
  have hx : Ext (fun _ => False) v2 v3 := ⟨hx.os, hx.tape, hx.output, hx.size, hx.block⟩
  have hg3 : v2.heap.size ≤ br3 := hg
  have hh3 : v2.heap.size ≤ bt3 := hh
  have y3 := hx.size
  have HV3 : Hid (Ext (fun _ => False) w4 v3) := Lib.hid (HV2.out.trans' hx)
  have HR1 := Lib.hid (HR1.out.ext hx id)
  have HT1 := Lib.hid (HT1.out.ext hx id)
  have HR2 := Lib.hid (HR2.out.ext hx id)
  have HT2 := Lib.hid (HT2.out.ext hx id)
  have HR3 := Lib.hid hr
  have HT3 := Lib.hid ht
  refine hK _ _ HV3.out ?_
  clear hK hx hr ht hg hh
  refine wpLoud_nil ?_
  refine wpSegs_cons ?_
  refine wpQuiet_nil ?_
  refine wpLoud_step rfl (fun K hK => ?_)
  go_simp
  refine (intoEx_mk _ _ _ ⟨_, rfl⟩ ⟨_, rfl⟩).mono ?_
  rintro e v4 ⟨br4, bt4, rfl, hx, ⟨tr4, hr⟩, ⟨tt4, ht⟩, hg, hh⟩
  have hx : Ext (fun _ => False) v3 v4 := ⟨hx.os, hx.tape, hx.output, hx.size, hx.block⟩
  have hg4 : v3.heap.size ≤ br4 := hg
  have hh4 : v3.heap.size ≤ bt4 := hh
  have y4 := hx.size
  have HV4 : Hid (Ext (fun _ => False) w4 v4) := Lib.hid (HV3.out.trans' hx)
  have HR1 := Lib.hid (HR1.out.ext hx id)
  have HT1 := Lib.hid (HT1.out.ext hx id)
  have HR2 := Lib.hid (HR2.out.ext hx id)
  have HT2 := Lib.hid (HT2.out.ext hx id)
  have HR3 := Lib.hid (HR3.out.ext hx id)
  have HT3 := Lib.hid (HT3.out.ext hx id)
  have HR4 := Lib.hid hr
  have HT4 := Lib.hid ht
  refine hK _ _ HV4.out ?_
  clear hK hx hr ht hg hh
  refine wpLoud_nil ?_
  refine wpSegs_cons ?_
  refine wpQuiet_nil ?_
  refine wpLoud_step rfl (fun K hK => ?_)
  go_simp
  refine hK _ _ (HV4.out.alloc _) ?_
  clear hK
  refine wpLoud_nil ?_
  refine wpSegs_nil ?_
  clear q0 q1 q2 q3 q4 ne
  have hx47 := HV4.out.alloc (.cells #[.func (.func 43) #[] #[], .func (.func 92) #[] #[.pointer (some ⟨br1, 0, none⟩), .pointer (some ⟨bt1, 0, none⟩)], .func (.func 97) #[] #[.pointer (some ⟨br2, 0, none⟩), .pointer (some ⟨bt2, 0, none⟩)], .func (.func 100) #[] #[.pointer (some ⟨br3, 0, none⟩), .pointer (some ⟨bt3, 0, none⟩)], .func (.func 101) #[] #[.pointer (some ⟨br4, 0, none⟩), .pointer (some ⟨bt4, 0, none⟩)]] 103)
  have hRB := Blk.new v4 #[.func (.func 43) #[] #[], .func (.func 92) #[] #[.pointer (some ⟨br1, 0, none⟩), .pointer (some ⟨bt1, 0, none⟩)], .func (.func 97) #[] #[.pointer (some ⟨br2, 0, none⟩), .pointer (some ⟨bt2, 0, none⟩)], .func (.func 100) #[] #[.pointer (some ⟨br3, 0, none⟩), .pointer (some ⟨bt3, 0, none⟩)], .func (.func 101) #[] #[.pointer (some ⟨br4, 0, none⟩), .pointer (some ⟨bt4, 0, none⟩)]] 103
  have hz7 : (v4.alloc (.cells #[.func (.func 43) #[] #[], .func (.func 92) #[] #[.pointer (some ⟨br1, 0, none⟩), .pointer (some ⟨bt1, 0, none⟩)], .func (.func 97) #[] #[.pointer (some ⟨br2, 0, none⟩), .pointer (some ⟨bt2, 0, none⟩)], .func (.func 100) #[] #[.pointer (some ⟨br3, 0, none⟩), .pointer (some ⟨bt3, 0, none⟩)], .func (.func 101) #[] #[.pointer (some ⟨br4, 0, none⟩), .pointer (some ⟨bt4, 0, none⟩)]] 103)).heap.size = v4.heap.size + 1 := by simp
  have hr1 := HR1.out.alloc (.cells #[.func (.func 43) #[] #[], .func (.func 92) #[] #[.pointer (some ⟨br1, 0, none⟩), .pointer (some ⟨bt1, 0, none⟩)], .func (.func 97) #[] #[.pointer (some ⟨br2, 0, none⟩), .pointer (some ⟨bt2, 0, none⟩)], .func (.func 100) #[] #[.pointer (some ⟨br3, 0, none⟩), .pointer (some ⟨bt3, 0, none⟩)], .func (.func 101) #[] #[.pointer (some ⟨br4, 0, none⟩), .pointer (some ⟨bt4, 0, none⟩)]] 103)
  have ht1 := HT1.out.alloc (.cells #[.func (.func 43) #[] #[], .func (.func 92) #[] #[.pointer (some ⟨br1, 0, none⟩), .pointer (some ⟨bt1, 0, none⟩)], .func (.func 97) #[] #[.pointer (some ⟨br2, 0, none⟩), .pointer (some ⟨bt2, 0, none⟩)], .func (.func 100) #[] #[.pointer (some ⟨br3, 0, none⟩), .pointer (some ⟨bt3, 0, none⟩)], .func (.func 101) #[] #[.pointer (some ⟨br4, 0, none⟩), .pointer (some ⟨bt4, 0, none⟩)]] 103)
  have hr2 := HR2.out.alloc (.cells #[.func (.func 43) #[] #[], .func (.func 92) #[] #[.pointer (some ⟨br1, 0, none⟩), .pointer (some ⟨bt1, 0, none⟩)], .func (.func 97) #[] #[.pointer (some ⟨br2, 0, none⟩), .pointer (some ⟨bt2, 0, none⟩)], .func (.func 100) #[] #[.pointer (some ⟨br3, 0, none⟩), .pointer (some ⟨bt3, 0, none⟩)], .func (.func 101) #[] #[.pointer (some ⟨br4, 0, none⟩), .pointer (some ⟨bt4, 0, none⟩)]] 103)
  have ht2 := HT2.out.alloc (.cells #[.func (.func 43) #[] #[], .func (.func 92) #[] #[.pointer (some ⟨br1, 0, none⟩), .pointer (some ⟨bt1, 0, none⟩)], .func (.func 97) #[] #[.pointer (some ⟨br2, 0, none⟩), .pointer (some ⟨bt2, 0, none⟩)], .func (.func 100) #[] #[.pointer (some ⟨br3, 0, none⟩), .pointer (some ⟨bt3, 0, none⟩)], .func (.func 101) #[] #[.pointer (some ⟨br4, 0, none⟩), .pointer (some ⟨bt4, 0, none⟩)]] 103)
  have hr3 := HR3.out.alloc (.cells #[.func (.func 43) #[] #[], .func (.func 92) #[] #[.pointer (some ⟨br1, 0, none⟩), .pointer (some ⟨bt1, 0, none⟩)], .func (.func 97) #[] #[.pointer (some ⟨br2, 0, none⟩), .pointer (some ⟨bt2, 0, none⟩)], .func (.func 100) #[] #[.pointer (some ⟨br3, 0, none⟩), .pointer (some ⟨bt3, 0, none⟩)], .func (.func 101) #[] #[.pointer (some ⟨br4, 0, none⟩), .pointer (some ⟨bt4, 0, none⟩)]] 103)
  have ht3 := HT3.out.alloc (.cells #[.func (.func 43) #[] #[], .func (.func 92) #[] #[.pointer (some ⟨br1, 0, none⟩), .pointer (some ⟨bt1, 0, none⟩)], .func (.func 97) #[] #[.pointer (some ⟨br2, 0, none⟩), .pointer (some ⟨bt2, 0, none⟩)], .func (.func 100) #[] #[.pointer (some ⟨br3, 0, none⟩), .pointer (some ⟨bt3, 0, none⟩)], .func (.func 101) #[] #[.pointer (some ⟨br4, 0, none⟩), .pointer (some ⟨bt4, 0, none⟩)]] 103)
  have hr4 := HR4.out.alloc (.cells #[.func (.func 43) #[] #[], .func (.func 92) #[] #[.pointer (some ⟨br1, 0, none⟩), .pointer (some ⟨bt1, 0, none⟩)], .func (.func 97) #[] #[.pointer (some ⟨br2, 0, none⟩), .pointer (some ⟨bt2, 0, none⟩)], .func (.func 100) #[] #[.pointer (some ⟨br3, 0, none⟩), .pointer (some ⟨bt3, 0, none⟩)], .func (.func 101) #[] #[.pointer (some ⟨br4, 0, none⟩), .pointer (some ⟨bt4, 0, none⟩)]] 103)
  have ht4 := HT4.out.alloc (.cells #[.func (.func 43) #[] #[], .func (.func 92) #[] #[.pointer (some ⟨br1, 0, none⟩), .pointer (some ⟨bt1, 0, none⟩)], .func (.func 97) #[] #[.pointer (some ⟨br2, 0, none⟩), .pointer (some ⟨bt2, 0, none⟩)], .func (.func 100) #[] #[.pointer (some ⟨br3, 0, none⟩), .pointer (some ⟨bt3, 0, none⟩)], .func (.func 101) #[] #[.pointer (some ⟨br4, 0, none⟩), .pointer (some ⟨bt4, 0, none⟩)]] 103)
  generalize v4.alloc (.cells #[.func (.func 43) #[] #[], .func (.func 92) #[] #[.pointer (some ⟨br1, 0, none⟩), .pointer (some ⟨bt1, 0, none⟩)], .func (.func 97) #[] #[.pointer (some ⟨br2, 0, none⟩), .pointer (some ⟨bt2, 0, none⟩)], .func (.func 100) #[] #[.pointer (some ⟨br3, 0, none⟩), .pointer (some ⟨bt3, 0, none⟩)], .func (.func 101) #[] #[.pointer (some ⟨br4, 0, none⟩), .pointer (some ⟨bt4, 0, none⟩)]] 103) = w7 at *
  have hX7 := HX4.out.trans' hx47
  have hF7 := Fst.ext HF4.out hx47 id
  have hb70 := HB0.out.ext hx47 id
  have lb0 := HB0.out.lt
  have a1 := hr1.lt
  have b1 := ht1.lt
  have a2 := hr2.lt
  have b2 := ht2.lt
  have a3 := hr3.lt
  have b3 := ht3.lt
  have a4 := hr4.lt
  have b4 := ht4.lt
  have PARTS := parts_any (B := B) [kb] (fun _ => 128) (fun _ => #[.string ⟨#[]⟩, .slice none 0 0, .bool false, .string ⟨#[]⟩, .int .u8 0, .string ⟨#[]⟩, .bool false, .slice none 0 0, .slice none 0 0, .slice none 0 0, .slice none 0 0, .int .u8 0, .string ⟨#[]⟩, .slice none 0 0, .slice none 0 0, .int .u8 0, .string ⟨#[]⟩, .bool false, .slice none 0 0, .bool false, .slice none 0 0, .slice none 0 0]) [slotSkip kb, slotStr br1 bt1 kb 0 encStr (fun wd r p _ => nameS wd r p), slotPms br2 bt2 kb 1 encPms (fun wd r p k => rowOf r p (paramsS k)), slotTy br3 bt3 kb 2 encTy (fun wd r p k => kindS k wd r p), slotEx br4 bt4 kb 11 encEx (fun wd r p k => bodyOf r p k (bodyS k))] wd (.slice a k.len cap) true p fb k v4.heap.size 103 w7 (HK.out.ext hX7 (fun _ _ h => h)) hF7 hRB (by simp) hfb
    (fun b hb => by
      simp only [List.mem_cons, List.not_mem_nil, or_false] at hb
      subst hb; omega)
    (by omega)
    (fun b hb => by
      simp only [List.mem_cons, List.not_mem_nil, or_false] at hb
      subst hb; exact ⟨hb70, rfl, by simp [Value.oneCell']⟩)
    (fun s hs => by
      simp only [List.mem_cons, List.not_mem_nil, or_false] at hs
      rcases hs with rfl | rfl | rfl | rfl | rfl <;> simp [slotEx, slotPms, slotSkip, slotStr, slotTy])
    (fun s hs xs hx => by
      simp only [List.mem_cons, List.not_mem_nil, or_false] at hs
      rcases hs with rfl | rfl | rfl | rfl | rfl
      · have hx : xs = [] := hx
        subst hx; simp
      · exact shpStr_one hx
      · exact shpSl_one hx
      · exact shpN_one (n := 9) hx
      · exact shpN_one (n := 11) hx)
    (fun s hs => by
      simp only [List.mem_cons, List.not_mem_nil, or_false] at hs
      rcases hs with rfl | rfl | rfl | rfl | rfl
      · exact skip_enters
      · exact intoStr_enters
      · exact intoPms_enters
      · exact intoTy_enters
      · exact intoEx_enters)
    (fun i h wd1 r1 p1 k1 hg => by
      have h : i < 5 := h
      match i, h with
      | 0, _ => exact does_skip _ _ _ _ _
      | 1, _ => exact doesStr br1 bt1 kb 0 encStr (fun wd r p _ => nameS wd r p) wd1 r1 p1 k1 hr1 ht1 ⟨by omega, by simp; omega⟩ ⟨by omega, by simp; omega⟩ (by simp) (by omega) (by omega) (by omega) name_enters (fun kv1 w1 hB hF hsl hwd => nodeName_any wd1 kv1 r1 p1 fb k1 w1 hF hsl hwd)
      | 2, _ => exact doesPms br2 bt2 kb 1 encPms (fun wd r p k => rowOf r p (paramsS k)) wd1 r1 p1 k1 hr2 ht2 ⟨by omega, by simp; omega⟩ ⟨by omega, by simp; omega⟩ (by simp) (by omega) (by omega) (by omega) params_enters (fun kv1 w1 hB hF hsl hwd => by have h := params_any (kind_any k1.size) wd1 kv1 r1 p1 fb k1 w1 (by omega) (by have := F.get_size hg; omega) hB hfb hF hsl; rw [← params_each] at h; exact h)
      | 3, _ => exact doesTy br3 bt3 kb 2 encTy (fun wd r p k => kindS k wd r p) wd1 r1 p1 k1 hr3 ht3 ⟨by omega, by simp; omega⟩ ⟨by omega, by simp; omega⟩ (by simp) (by omega) (by omega) (by omega) kind_enters (fun kv1 w1 hB hF hsl hwd => kind_any (k1.size + 1) B fb wd1 kv1 r1 p1 k1 w1 (by omega) (by have := F.get_size hg; omega) hB hfb hF hsl hwd)
      | 4, _ => exact doesEx br4 bt4 kb 11 encEx (fun wd r p k => bodyOf r p k (bodyS k)) wd1 r1 p1 k1 hr4 ht4 ⟨by omega, by simp; omega⟩ ⟨by omega, by simp; omega⟩ (by simp) (by omega) (by omega) (by omega) body_enters (HBODY wd1 r1 p1 k1 hg))
  have HPARTS := Lib.hid PARTS
  have HX7 := Lib.hid hX7
  have HZ7 : Hid (kb < w7.heap.size) := Lib.hid (by omega)
  have y7 : w.heap.size ≤ w7.heap.size := hX7.size
  clear PARTS hX7 hF7 hb70 hx47 hRB hr1 ht1 hr2 ht2 hr3 ht3 hr4 ht4
  unfold nodeV at HPARTS
  go_wp2_with fail
  refine HPARTS.out.mono ?_
  rintro e w8 ⟨rfl, hx8, S', hT8, hres⟩
  have HX8 : Hid (Ext (· = fb) w w8) := Lib.hid ((HX7.out.mono (M' := (· = fb)) (fun _ _ h => h.elim)).trans hx8 (fun b hb h => h.elim id (fun h => by
    simp only [List.mem_cons, List.not_mem_nil, or_false] at h
    omega)))
  have HR8 := Lib.hid hres
  have hz8 := hx8.size
  have HT80 := Lib.hid (hT8 kb (by simp))
  clear hx8 hres hT8
  have h80 := HT80.out
  simp only [if_true, if_false] at h80
  obtain ⟨hb8, hsz8, hone8⟩ := h80
  obtain ⟨x0, x1, x2, x3, x4, x5, x6, x7, x8, x9, x10, x11, x12, x13, x14, x15, x16, x17, x18, x19, x20, x21, hS, o0, o1, o2, o3, o4, o5, o6, o7, o8, o9, o10, o11, o12, o13, o14, o15, o16, o17, o18, o19, o20, o21⟩ := arrN22 hsz8 hone8
  rw [hS] at hb8
  clear hsz8 hone8
  have hbp8 := HBP.out.ext HX8.out hne
  have l9 : kb < w8.heap.size := by have := HZ7.out; omega
  have hown8 := owns_ext HOWN.out HX8.out (fun b hb hl e => by omega)
  have hvb : ∀ b, v.ownBlock = some b → base ≤ b ∧ b < w.heap.size := HVO.out
  have hpv : ¬ v.ownBlock = some pb := fun e => by have := hvb pb e; omega
  have hkv : ¬ v.ownBlock = some kb := fun e => by have := hvb kb e; omega
  have p2 := hbp8.cell 2
  simp only [List.getElem?_toArray, List.getElem?_cons_zero, List.getElem?_cons_succ] at p2
  haveI ne : Nonempty (Wd (fun x => Ext (fun b => v.ownBlock = some b) w8 x)) := ⟨⟨w8, Ext.refl _ _⟩⟩
  have qp : ∀ x : (Wd (fun x => Ext (fun b => v.ownBlock = some b) w8 x)), x.w.cell? ⟨pb, 2, none⟩ = some v := fun x => x.ok.cellSome p2 hpv
  have qb : ∀ x : (Wd (fun x => Ext (fun b => v.ownBlock = some b) w8 x)), Blk x.w kb #[x0, x1, x2, x3, x4, x5, x6, x7, x8, x9, x10, x11, x12, x13, x14, x15, x16, x17, x18, x19, x20, x21] 128 := fun x => hb8.ext x.ok hkv
  have HS := Lib.hid hS
  have HO8 := Lib.hid hown8
  have HBP8 := Lib.hid hbp8
  clear hb8 hS hown8 hbp8 p2
  go_upto_region 14 with fail
  refine wp_region_steps (S := fun x => Ext (fun b => v.ownBlock = some b) w8 x) [([0, 1, 2, 3, 4, 5], [6]), ([], [7]), ([8, 9], [])] _ (by kernel_rfl) (by kernel_rfl) rfl (by kernel_rfl) (fun _ d _ _ _ h => by cases d <;> exact h) (Ext.refl _ _).drew ?_
  simp only [segOps, List.filterMap_cons, List.filterMap_nil, List.getElem?_cons_zero, List.getElem?_cons_succ]
  refine wpSegs_cons ?_
  change wpQuiet _ _ _ _ (_ :: _ :: _ :: _ :: _ :: _ :: []) _
  go_big_quiet_step (fail)
  go_big_quiet_step (fail)
  go_big_quiet_step (fail)
  go_big_quiet_step (fail)
  go_big_quiet_step (fail)
  refine BigFrame.wpQuiet_want rfl (fun K hK => ?_)
  refine quiet_load (x := .tmp 7) (b := kb) (cs := [x0, x1, x2, x3, x4, x5, x6, x7, x8, x9, x10, x11, x12, x13, x14, x15, x16, x17, x18, x19, x20, x21]) (T := 128) rfl rfl (fun _ => by kernel_rfl) (fun _ => by kernel_rfl) (fun w' hw' => by obtain ⟨x, rfl⟩ := hw'; exact qb x) ?_
  refine hK _ ?_
  clear hK
  refine wpQuiet_nil ?_
  simp only [Act.put, List.setIfInBounds_toArray, List.set_cons_succ, List.set_cons_zero]
  refine wpLoud_step rfl (fun K hK => ?_)
  go_simp
  refine hK _ _ ((Ext.refl _ w8).drew.alloc _) ?_
  clear hK
  refine wpLoud_nil ?_
  refine wpSegs_cons ?_
  refine wpQuiet_nil ?_
  refine wpLoud_step rfl (fun K hK => ?_)
  refine wp_append_own2 (.tmp 79) (.tmp 81) 26 rfl base 128 22 376 eltFu v fs.length xs rfl (HO8.out.alloc _) ⟨w8.heap.size, 0, none⟩ 1 1 [x0, x1, x2, x3, x4, x5, x6, x7, x8, x9, x10, x11, x12, x13, x14, x15, x16, x17, x18, x19, x20, x21] rfl rfl (new_cells w8.drew [x0, x1, x2, x3, x4, x5, x6, x7, x8, x9, x10, x11, x12, x13, x14, x15, x16, x17, x18, x19, x20, x21] 128) (ones_cons o0 (ones_cons o1 (ones_cons o2 (ones_cons o3 (ones_cons o4 (ones_cons o5 (ones_cons o6 (ones_cons o7 (ones_cons o8 (ones_cons o9 (ones_cons o10 (ones_cons o11 (ones_cons o12 (ones_cons o13 (ones_cons o14 (ones_cons o15 (ones_cons o16 (ones_cons o17 (ones_cons o18 (ones_cons o19 (ones_cons o20 (ones_cons o21 (ones_nil))))))))))))))))))))))) (by unfold maxLen; omega) (by omega) (by simp [World.drew]; omega) ?_
  intro v' w10 hown' hg'
  have hgA : Grew v v' (w8.alloc (.cells #[x0, x1, x2, x3, x4, x5, x6, x7, x8, x9, x10, x11, x12, x13, x14, x15, x16, x17, x18, x19, x20, x21] 128)) w10 := ⟨⟨hg'.by_.os, hg'.by_.tape, hg'.by_.output, hg'.by_.size, hg'.by_.block⟩, hg'.own⟩
  clear hg'
  have hg' : Grew v v' w8 w10 := hgA.ofAlloc
  clear hgA
  have hx10 : Ext (fun b => v.ownBlock = some b) w8 w10 := (Ext.refl _ w8).grown hg'.by_ (fun k e _ => e)
  refine hK _ _ hx10 ?_
  clear hK
  refine wpLoud_nil ?_
  refine wpSegs_cons ?_
  change wpQuiet _ _ _ _ (_ :: _ :: []) _
  simp only [Act.put, List.setIfInBounds_toArray, List.set_cons_succ, List.set_cons_zero]
  repeat (go_big_quiet_step (fail))
  refine wpQuiet_nil ?_
  refine wpLoud_nil ?_
  refine wpSegs_nil ?_
  clear qp qb ne
  obtain ⟨a9, n9, cap9, hv9⟩ := ownsRow_slice hown'
  subst hv9
  have hbp10 := HBP8.out.ext hx10 hpv
  have p2 := hbp10.cell 2
  have pf2 := hbp10.frozen 2
  simp only [List.getElem?_toArray, List.getElem?_cons_zero, List.getElem?_cons_succ] at p2
  have lp := hbp10.lt
  have hlt' := hown'.lt
  have HO10 := Lib.hid hown'
  have HG10 := Lib.hid hg'
  have HX10 := Lib.hid hx10
  have HBP10 := Lib.hid hbp10
  have HLT := Lib.hid hlt'
  clear hown' hg' hx10 hbp10 hlt' HO8 HBP8
  go_wp2_with fail
  go_end0
  have hg' := HG10.out
  have hx10 := HX10.out
  have hpo : ∀ b, (Value.slice a9 n9 cap9).ownBlock = some b → b ≠ pb := fun b hb e => by
    rcases hg'.own b hb with h | h
    · have := hvb b h; omega
    · omega
  have hx11 : Ext (· = pb) w10 (w10.setCell ⟨pb, 2, none⟩ (.slice a9 n9 cap9)) := (Ext.refl (· = pb) w10).setCell (p := ⟨pb, 2, none⟩) (fun _ => rfl) _
  refine ⟨rfl, ?_, ?_⟩
  · exact (((HX8.out.mono (M' := fun b => b = fb ∨ b = pb ∨ base ≤ b) (fun _ _ h => .inl h)).trans hx10 (fun b hb e => .inr (.inr (hvb b e).1)))).setCell (p := ⟨pb, 2, none⟩) (fun _ => .inr (.inl rfl)) _
  · rw [HRES.out]
    have h := HR8.out
    have hz7 := HZ7.out
    have hfv : ¬ v.ownBlock = some fb := fun e => by have := hvb fb e; omega
    rcases fun_cases br1 bt1 br2 bt2 br3 bt3 br4 bt4 kb true p k with ⟨q, h1, h2⟩ | ⟨u1, u2, u3, u4, h1, h2⟩
    · rw [h1] at h
      rw [h2]
      exact Fst.setOther (Fst.ext h hx10 hfv) ⟨pb, 2, none⟩ hne _
    · rw [h1] at h
      rw [h2]
      obtain ⟨hf8, xss, hp, hsr⟩ := h
      have hS := HS.out
      rw [hp] at hS
      match xss, hsr, hp with
      | [y0, y1, y2, y3, y4], ⟨s0, _, s1, g1, s2, g2, s3, g3, s4, g4, _⟩, hp =>
        have s0 : y0 = [] := s0
        subst s0
        obtain ⟨vs, rfl⟩ := s1
        obtain ⟨a5, n5, cap5, rfl⟩ := s2
        obtain ⟨z0, z1, z2, z3, z4, z5, z6, z7, z8, rfl, _⟩ := len9 s3
        obtain ⟨t0, t1, t2, t3, t4, t5, t6, t7, t8, t9, t10, rfl, _⟩ := len11 s4
        have hEq : [x0, x1, x2, x3, x4, x5, x6, x7, x8, x9, x10, x11, x12, x13, x14, x15, x16, x17, x18, x19, x20, x21] = [.string vs, .slice a5 n5 cap5, z0, z1, z2, z3, z4, z5, z6, z7, z8, t0, t1, t2, t3, t4, t5, t6, t7, t8, t9, t10] := by
          have h := hS
          simp [puts, put, slotSkip, slotStr, slotPms, slotTy, slotEx, putL] at h
          obtain ⟨h0, h1, h2, h3, h4, h5, h6, h7, h8, h9, h10, h11, h12, h13, h14, h15, h16, h17, h18, h19, h20, h21⟩ := h
          first
            | rw [h0, h1, h2, h3, h4, h5, h6, h7, h8, h9, h10, h11, h12, h13, h14, h15, h16, h17, h18, h19, h20, h21]
            | rw [← h0, ← h1, ← h2, ← h3, ← h4, ← h5, ← h6, ← h7, ← h8, ← h9, ← h10, ← h11, ← h12, ← h13, ← h14, ← h15, ← h16, ← h17, ← h18, ← h19, ← h20, ← h21]
        clear hS
        obtain ⟨_, e1, m1, _⟩ := g1
        simp only [List.cons.injEq, Value.string.injEq] at e1
        obtain ⟨rfl, _⟩ := e1
        obtain ⟨v5, ys5, xs5, e5, r5, hh5, rfl⟩ := g2
        simp only [List.cons.injEq, and_true] at e5
        subst e5
        have hrf : Rep (fun b => w7.heap.size ≤ b) w8 (encFu ⟨vs, u2, u3, u4⟩) [.string vs, .slice a5 n5 cap5, z0, z1, z2, z3, z4, z5, z6, z7, z8, t0, t1, t2, t3, t4, t5, t6, t7, t8, t9, t10] :=
          ⟨_, rfl, m1, _, ys5, _, rfl, r5, hh5, ty_tail (xs := [z0, z1, z2, z3, z4, z5, z6, z7, z8]) g3 g4⟩
        have hr10 : Rep (fun b => base ≤ b ∧ (Value.slice a9 n9 cap9).ownBlock ≠ some b) w10 (encFu ⟨vs, u2, u3, u4⟩) [x0, x1, x2, x3, x4, x5, x6, x7, x8, x9, x10, x11, x12, x13, x14, x15, x16, x17, x18, x19, x20, x21] := by
          rw [hEq]
          exact (hrf.mono (D' := fun b => base ≤ b ∧ v.ownBlock ≠ some b) (fun b hb _ => ⟨by have hb : w7.heap.size ≤ b := hb; omega, fun e => by have hb : w7.heap.size ≤ b := hb; have := hvb b e; omega⟩)).grew hg'
        have hro : Rep (fun b => base ≤ b ∧ (Value.slice a9 n9 cap9).ownBlock ≠ some b) w10 (fusU fs) xs := (HREP.out.ext HX8.out (fun b hb e => by have := hb.1; omega)).grew hg'
        refine ⟨Fst.setOther (Fst.ext hf8 hx10 hfv) ⟨pb, 2, none⟩ hne _, .slice a9 n9 cap9, _, HBP10.out.set 2 _, owns_ext (by simpa using HO10.out) hx11 (fun b hb _ e => hpo b hb e), ?_⟩
        rw [luFu.snoc]
        exact ((hro.app hr10).ext hx11 (fun b hb e => by have := hb.1; omega))

end Go.Proofs.YtmcinpeplkkpfaaGreatDoor

namespace Go.Proofs.YtmcinpeplkkpfaaGreatDoor
open Go.RowKit
def RD (w : World) (br : Nat) (s : ByteArray) (at_ op : Nat) : Prop := Blk w br #[.string s, .int .i64 at_, .int .i64 op] 86

theorem RD.c0 {w : World} {br : Nat} {s : ByteArray} {at_ op : Nat} (h : RD w br s at_ op) : w.cell? ⟨br, 0, none⟩ = some (.string s) := Blk.cell h 0

theorem RD.c1 {w : World} {br : Nat} {s : ByteArray} {at_ op : Nat} (h : RD w br s at_ op) : w.cell? ⟨br, 1, none⟩ = some (.int .i64 at_) := Blk.cell h 1

theorem RD.c2 {w : World} {br : Nat} {s : ByteArray} {at_ op : Nat} (h : RD w br s at_ op) : w.cell? ⟨br, 2, none⟩ = some (.int .i64 op) := Blk.cell h 2

theorem RD.at {w : World} {br : Nat} {s : ByteArray} {at_ op : Nat} (h : RD w br s at_ op) (v : Int) (k : Nat) (hv : v = k) : RD (w.setCell ⟨br, 1, none⟩ (.int .i64 v)) br s k op := by
  subst hv; exact Blk.set h 1 _

theorem RD.open {w : World} {br : Nat} {s : ByteArray} {at_ op : Nat} (h : RD w br s at_ op) (v : Int) (k : Nat) (hv : v = k) : RD (w.setCell ⟨br, 2, none⟩ (.int .i64 v)) br s at_ k := by
  subst hv; exact Blk.set h 2 _

set_option maxHeartbeats 400000 in
theorem more_any (br : Nat) (s : ByteArray) (at_ op : Nat) (w : World) (h : RD w br s at_ op) :
    Calls Tryz.prog 36 #[.pointer (some ⟨br, 0, none⟩)] w fun e w' => e = .returned (.bool (decide (at_ < s.size))) ∧ ∃ n, w' = w.drewN n := by
  have h1 := h.c0
  have h2 := h.c1
  clear h
  go_enter Tryz.func36, Tryz.ntmps36
  go_wp2
  go_quiet (fail)
  go_wp2
  go_ret
  exact ⟨by simp, _, rfl⟩

theorem more_yes (br : Nat) (s : ByteArray) (at_ op : Nat) (w : World) (h : RD w br s at_ op) (hlt : at_ < s.size) :
    Calls Tryz.prog 36 #[.pointer (some ⟨br, 0, none⟩)] w fun e w' => e = .returned (.bool true) ∧ ∃ n, w' = w.drewN n :=
  (more_any br s at_ op w h).mono fun _ _ ⟨he, hw⟩ => ⟨by rw [he, decide_eq_true hlt], hw⟩

theorem more_no (br : Nat) (s : ByteArray) (at_ op : Nat) (w : World) (h : RD w br s at_ op) (hge : s.size ≤ at_) :
    Calls Tryz.prog 36 #[.pointer (some ⟨br, 0, none⟩)] w fun e w' => e = .returned (.bool false) ∧ ∃ n, w' = w.drewN n :=
  (more_any br s at_ op w h).mono fun _ _ ⟨he, hw⟩ => ⟨by rw [he, decide_eq_false (by omega)], hw⟩

def faultChain (at_ : Nat) (e : Int) : List PanicEntry := [{ v := .iface 80 (.agg #[.int .i64 at_, .int .i64 e]), recovered := false }]

set_option maxHeartbeats 400000 in
theorem must_yes (br : Nat) (e : Int) (w : World) :
    Calls Tryz.prog 35 #[.pointer (some ⟨br, 0, none⟩), .bool true, .int .i64 e] w fun e w' => e = .returned (.tuple #[]) ∧ w = w' := by
  go_enter Tryz.func35, Tryz.ntmps35
  go_wp2
  go_end0
  exact ⟨rfl, rfl⟩

set_option maxHeartbeats 400000 in
theorem must_no (br : Nat) (s : ByteArray) (at_ op : Nat) (er : Int) (w : World) (h : RD w br s at_ op) :
    Calls Tryz.prog 35 #[.pointer (some ⟨br, 0, none⟩), .bool false, .int .i64 er] w fun e w' => e = .panicked (faultChain at_ er) ∧ w = w' := by
  have h2 := h.c1
  clear h
  go_enter Tryz.func35, Tryz.ntmps35
  go_wp2
  exact ⟨rfl, rfl, rfl⟩

set_option maxHeartbeats 400000 in
theorem blank_any (c : UInt8) (w : World) :
    Calls Tryz.prog 89 #[.int .u8 (c.toNat : Int)] w fun e w' => e = .returned (.bool (isBlank c)) ∧ w = w' := by
  have e1 : isBlank c = (((c.toNat : Int) == 32) || ((c.toNat : Int) == 10)) := by
    unfold isBlank; rw [Bool.eq_iff_iff]; simp [← UInt8.toNat_inj]; omega
  rw [e1]; clear e1
  by_cases h : ((c.toNat : Int) == 32) = true
  · go_enter Tryz.func89, Tryz.ntmps89
    go_wp2
    go_ret
    exact ⟨by simp [h], rfl⟩
  · have h' : ((c.toNat : Int) == 32) = false := by simpa using h
    clear h
    go_enter Tryz.func89, Tryz.ntmps89
    go_wp2
    go_ret
    exact ⟨by simp [h'], rfl⟩

theorem indexByte_nonneg (c : UInt8) : ∀ l : List UInt8, 0 ≤ Lib.indexByte l c ↔ c ∈ l
  | [] => by simp [Lib.indexByte]
  | b :: l => by
    have ih := indexByte_nonneg c l
    have hg := Lib.indexByte_ge l c
    unfold Lib.indexByte
    by_cases h : (b == c) = true
    · simp [h]; simp at h; simp [h]
    · have h' : ¬ b = c := by simpa using h
      simp only [h, Bool.false_eq_true, if_false]
      by_cases h2 : Lib.indexByte l c = -1
      · simp [h2]; rw [h2] at ih; simp at ih; exact ⟨fun e => h' e.symm, ih⟩
      · simp [h2]; rw [← ih]; constructor
        · intro _; right; omega
        · rintro (e | e)
          · exact absurd e.symm h'
          · omega

theorem sl_index_any (c : UInt8) (s : ByteArray) (w : World) :
    Calls Tryz.prog 170 #[.string s, .int .u8 (c.toNat : Int)] w fun e w' => e = .returned (.int .i64 (Lib.indexByte s.data.toList c)) ∧ w = w' := by
  have hr : (callFunc 204 #[.string s, .int .u8 (c.toNat : Int)]).run Tryz.prog w = .ok (.value (.int .i64 (Lib.indexByte s.data.toList c))) w := by
    rw [run_callFunc_extern Tryz.func204 (by kernel_rfl) (by kernel_rfl) (by kernel_rfl) (e := Extern.BytealgIndexByte.indexByte) (by kernel_rfl), Lib.run_indexByteString]
    simp [Result.andThen]
  go_enter Tryz.func170, Tryz.ntmps170
  go_wp2
  go_ret
  exact ⟨rfl, rfl⟩

theorem index_any (c : UInt8) (s : ByteArray) (w : World) :
    Calls Tryz.prog 174 #[.string s, .int .u8 (c.toNat : Int)] w fun e w' => e = .returned (.int .i64 (Lib.indexByte s.data.toList c)) ∧ w = w' := by
  go_enter Tryz.func174, Tryz.ntmps174
  go_wp2_with (go_at_call 170; refine (sl_index_any _ _ _).mono ?_; rintro e w' ⟨rfl, rfl⟩)
  go_ret
  exact ⟨rfl, rfl⟩

theorem isSign_int (c : UInt8) : isSign c = ((decide ((97 : Int) ≤ (c.toNat : Int)) && decide ((c.toNat : Int) ≤ 122)) || (decide ((48 : Int) ≤ (c.toNat : Int)) && decide ((c.toNat : Int) ≤ 57)) || decide ((0 : Int) ≤ Lib.indexByte [95, 45, 46, 43, 42, 47, 61, 60, 62] c)) := by
  have h := indexByte_nonneg c [95, 45, 46, 43, 42, 47, 61, 60, 62]
  have h2 : decide ((0 : Int) ≤ Lib.indexByte [95, 45, 46, 43, 42, 47, 61, 60, 62] c) = decide (c ∈ [95, 45, 46, 43, 42, 47, 61, 60, 62]) := by simp only [h]
  rw [h2, Bool.eq_iff_iff]
  simp only [isSign, Bool.or_eq_true, Bool.and_eq_true, decide_eq_true_eq, beq_iff_eq, UInt8.le_iff_toNat_le, List.mem_cons, List.not_mem_nil, ← UInt8.toNat_inj]
  simp
  omega

set_option maxHeartbeats 1000000 in
theorem sign_any (c : UInt8) (w : World) :
    Calls Tryz.prog 132 #[.int .u8 (c.toNat : Int)] w fun e w' => e = .returned (.bool (isSign c)) ∧ w = w' := by
  rw [isSign_int]
  by_cases h1 : (97 : Int) ≤ (c.toNat : Int) <;> by_cases h2 : (c.toNat : Int) ≤ 122 <;> by_cases h3 : (48 : Int) ≤ (c.toNat : Int) <;> by_cases h4 : (c.toNat : Int) ≤ 57 <;> try omega
  all_goals
    go_enter Tryz.func132, Tryz.ntmps132
    go_wp2_with (go_at_call 174; refine (index_any _ _ _).mono ?_; rintro e w' ⟨rfl, rfl⟩)
    go_ret
    refine ⟨congrArg (fun b => Ending.returned (.bool b)) ?_, rfl⟩
    simp [*] <;> omega

set_option maxHeartbeats 1000000 in
theorem while_blank (br : Nat) (s : ByteArray) (at_ op : Nat) (w : World) (h : RD w br s at_ op) (hat : at_ ≤ s.size) (hs : s.size ≤ 262144) :
    Calls Tryz.prog 88 #[.pointer (some ⟨br, 0, none⟩), .func (.func 89) #[] #[]] w fun e w' =>
      e = .returned (.string (s.extract at_ (adv isBlank s at_))) ∧ RD w' br s (adv isBlank s at_) op ∧ Ext (· = br) w w' := by
  have h1 := h.c1
  go_enter Tryz.func88, Tryz.ntmps88
  go_wp2
  clear h1
  go_loopg [] (s.size - at_) (fun g wr => ∃ k : Nat, RD wr br s k op ∧ at_ ≤ k ∧ k ≤ s.size ∧ s.size - k ≤ g ∧ adv isBlank s k = adv isBlank s at_ ∧ Ext (· = br) w wr)
  case atStart => exact ⟨at_, h, Nat.le_refl _, hat, Nat.le_refl _, rfl, Ext.refl _ _⟩
  case round =>
    obtain ⟨k, hrd, hk1, hk2, hg, hadv, hext⟩ := hrel
    have c0 := hrd.c0
    have c1 := hrd.c1
    have f1 := Blk.frozen hrd 1
    by_cases hlt : k < s.size
    · by_cases hb : isBlank s[k] = true
      · go_wp2_with fail
        go_quiet (first | (go_at_call 36; refine Calls.quiet_of (more_yes _ s k op _ hrd hlt)) | (go_at_call 89; refine quiet_eq (blank_any _ _)))
        go_wp2
        go_roundg (s.size - (k + 1))
        case measure => omega
        case rel => exact ⟨k + 1, RD.at (Blk.drewN hrd nq) _ _ (by simp), by omega, by omega, Nat.le_refl _, (adv_step isBlank hlt hb).symm.trans hadv, (hext.drewN nq).setCell (fun _ => rfl) _⟩
      · have hb' : isBlank s[k] = false := by simpa using hb
        clear hb
        have HA : Hid (adv isBlank s at_ = k) := hadv.symm.trans (adv_stop isBlank hlt hb')
        clear hadv
        go_wp2_with fail
        go_quiet (first | (go_at_call 36; refine Calls.quiet_of (more_yes _ s k op _ hrd hlt)) | (go_at_call 89; refine quiet_eq (blank_any _ _)))
        go_wp2
        go_quiet (fail)
        go_wp2
        go_ret
        exact ⟨by rw [HA.out]; rfl, by rw [HA.out]; exact hrd, (hext.drewN _).drewN _⟩
    · obtain rfl : k = s.size := by omega
      have HA : Hid (adv isBlank s at_ = s.size) := hadv.symm.trans (adv_end isBlank (Nat.le_refl _))
      clear hadv
      go_wp2_with fail
      go_quiet (first | (go_at_call 36; refine Calls.quiet_of (more_no _ s s.size op _ hrd (Nat.le_refl _))) | (go_at_call 89; refine quiet_eq (blank_any _ _)))
      go_wp2
      go_quiet (fail)
      go_wp2
      go_ret
      exact ⟨by rw [HA.out]; rfl, by rw [HA.out]; exact hrd, (hext.drewN _).drewN _⟩

set_option maxHeartbeats 1000000 in
theorem while_sign (br : Nat) (s : ByteArray) (at_ op : Nat) (w : World) (h : RD w br s at_ op) (hat : at_ ≤ s.size) (hs : s.size ≤ 262144) :
    Calls Tryz.prog 88 #[.pointer (some ⟨br, 0, none⟩), .func (.func 132) #[] #[]] w fun e w' =>
      e = .returned (.string (s.extract at_ (adv isSign s at_))) ∧ RD w' br s (adv isSign s at_) op ∧ Ext (· = br) w w' := by
  have h1 := h.c1
  go_enter Tryz.func88, Tryz.ntmps88
  go_wp2
  clear h1
  go_loopg [] (s.size - at_) (fun g wr => ∃ k : Nat, RD wr br s k op ∧ at_ ≤ k ∧ k ≤ s.size ∧ s.size - k ≤ g ∧ adv isSign s k = adv isSign s at_ ∧ Ext (· = br) w wr)
  case atStart => exact ⟨at_, h, Nat.le_refl _, hat, Nat.le_refl _, rfl, Ext.refl _ _⟩
  case round =>
    obtain ⟨k, hrd, hk1, hk2, hg, hadv, hext⟩ := hrel
    have c0 := hrd.c0
    have c1 := hrd.c1
    have f1 := Blk.frozen hrd 1
    by_cases hlt : k < s.size
    · by_cases hb : isSign s[k] = true
      · go_wp2_with fail
        go_quiet (first | (go_at_call 36; refine Calls.quiet_of (more_yes _ s k op _ hrd hlt)) | (go_at_call 132; refine quiet_eq (sign_any _ _)))
        go_wp2
        go_roundg (s.size - (k + 1))
        case measure => omega
        case rel => exact ⟨k + 1, RD.at (Blk.drewN hrd nq) _ _ (by simp), by omega, by omega, Nat.le_refl _, (adv_step isSign hlt hb).symm.trans hadv, (hext.drewN nq).setCell (fun _ => rfl) _⟩
      · have hb' : isSign s[k] = false := by simpa using hb
        clear hb
        have HA : Hid (adv isSign s at_ = k) := hadv.symm.trans (adv_stop isSign hlt hb')
        clear hadv
        go_wp2_with fail
        go_quiet (first | (go_at_call 36; refine Calls.quiet_of (more_yes _ s k op _ hrd hlt)) | (go_at_call 132; refine quiet_eq (sign_any _ _)))
        go_wp2
        go_quiet (fail)
        go_wp2
        go_ret
        exact ⟨by rw [HA.out]; rfl, by rw [HA.out]; exact hrd, (hext.drewN _).drewN _⟩
    · obtain rfl : k = s.size := by omega
      have HA : Hid (adv isSign s at_ = s.size) := hadv.symm.trans (adv_end isSign (Nat.le_refl _))
      clear hadv
      go_wp2_with fail
      go_quiet (first | (go_at_call 36; refine Calls.quiet_of (more_no _ s s.size op _ hrd (Nat.le_refl _))) | (go_at_call 132; refine quiet_eq (sign_any _ _)))
      go_wp2
      go_quiet (fail)
      go_wp2
      go_ret
      exact ⟨by rw [HA.out]; rfl, by rw [HA.out]; exact hrd, (hext.drewN _).drewN _⟩

end Go.Proofs.YtmcinpeplkkpfaaGreatDoor
