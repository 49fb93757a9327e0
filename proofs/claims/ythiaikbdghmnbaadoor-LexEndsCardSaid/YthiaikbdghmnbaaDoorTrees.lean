/- Walk: (*writer).trees, Text. -/
import Derived.Test.YthiaikbdghmnbaaDoorBld
import Derived.Test.YthiaikbdghmnbaaDoorLexDeep
import Derived.Test.YthiaikbdghmnbaaDoorQTail
import Derived.Test.YthiaikbdghmnbaaDoorLexTx
namespace Go.Proofs.YthiaikbdghmnbaaDoor
open Go.RowKit


theorem Ext.ofBelowB {B : Nat} {a b : World} (h : Below B a b) : Ext (B ≤ ·) a b := ⟨h.os, h.tape, h.output, h.size, fun k _ hn => h.block k (by omega)⟩

theorem Blk.kept {e b k : Nat} {t : TypeId} {cs : Array Value} {w w' : World} (h : Blk w k cs t) (ho : Lib.OthersKept e (some b) w w') (hk : k ≠ b) (ht : t ≠ e) : Blk w' k cs t :=
  ho k _ h (by simpa using hk) (fun c fz hc => by simp at hc; exact ht hc.2.1)

theorem below_drewN {B : Nat} {w w' : World} (h : Below B w w') (n : Nat) : Below B w (w'.drewN n) := ⟨h.os, h.tape, h.output, h.size, h.block⟩
theorem kept_drewN {e : TypeId} {b : Option Nat} {w w' : World} (h : Lib.OthersKept e b w w') (n : Nat) : Lib.OthersKept e b w (w'.drewN n) := h

/-- What trees leaves. -/
def TreesPost (B b : Nat) (w : World) (l : List UInt8) (e : Ending) (w' : World) : Prop :=
  e = .returned (.tuple #[]) ∧ WB B b l w' ∧ Below B w w' ∧ Lib.OthersKept 5 (some b) w w'

theorem WB.lt {B b : Nat} {l : List UInt8} {w : World} (h : WB B b l w) : b < w.heap.size := by rcases h with h | h <;> exact h.lt
theorem WB.le {B b : Nat} {l : List UInt8} {w : World} (h : WB B b l w) : B ≤ b := by rcases h with h | h <;> exact h.1

set_option maxRecDepth 100000 in
set_option maxHeartbeats 4000000 in
theorem trees_calls (B b : Nat) : ∀ (n : Nat) (f : F) (va : Value) (l : List UInt8) (w : World), f.size < n → Sl (· < B) w va f → WB B b l w → B ≤ w.heap.size → l.length + f.tx.length ≤ 140737488355328 →
    Calls Tryd.prog 27 #[.pointer (some ⟨b, 0, none⟩), va] w (TreesPost B b w (l ++ f.tx)) := by
  intro n
  induction n with
  | zero => intro f va l w h; omega
  | succ n ih =>
    intro f va l w hsz hf hw hB hlen
    have IH := Lib.hid ih
    clear ih
    obtain ⟨a, cap, ba, oa, rfl, ha1, ha2, ha, har⟩ := hf.rowAt'
    clear hf
    unfold maxLen at ha2
    have HA := Lib.hid ha
    have HAR := Lib.hid har
    have HLEN := Lib.hid hlen
    generalize hres : l ++ f.tx = res
    have HR := Lib.hid hres
    clear ha har hlen hres
    go_enter Tryd.func27, Tryd.ntmps27
    go_wp2_with fail
    go_loopg [8] f.len (fun q i wr => ∃ (k : Nat) (acc : List UInt8) (r : F), i = .int .i64 k ∧ k + r.len = f.len ∧ q = r.len ∧ Hid (WB B b acc wr ∧ Below B w wr ∧ Lib.OthersKept 5 (some b) w wr) ∧ B ≤ wr.heap.size ∧
        Hid (RowAt (· < B) wr ba r (oa + k * 4)) ∧ Hid (acc ++ r.txB (decide (0 < k)) = res) ∧ r.size ≤ f.size)
    case atStart => exact ⟨0, l, f, rfl, by omega, rfl, Lib.hid ⟨hw, Below.refl _ _, Lib.OthersKept.refl _ _ _⟩, hB, by rw [Nat.zero_mul, Nat.add_zero]; exact HAR, HR.out, Nat.le_refl _⟩
    case round =>
      obtain ⟨k, acc, r, rfl, hk, rfl, HW, hBr, HAR, HT, hsr⟩ := hrel
      cases r with
      | nil =>
        simp only [F.len] at hk
        obtain rfl : acc = res := by have := HT.out; simpa [F.txB] using this
        have hkd : decide ((k : Int) < (f.len : Int)) = false := by simp; omega
        go_wp2_with fail
        go_end0
        exact ⟨rfl, HW.out⟩
      | cons wd rw1 p1 kd t =>
        simp only [F.len] at hk
        obtain ⟨rfl, hbaB⟩ := HA.out (by omega)
        obtain ⟨a0, ⟨av, a1, asl⟩, a2, a3, hwd, ar⟩ := HAR.out
        obtain ⟨kc, kcap, rfl, _, _⟩ := asl.shape
        have AR := Lib.hid ar
        clear ar
        have hk0 : (0 : Int) ≤ (k : Int) := by omega
        have hk1 : (k : Int) < (f.len : Int) := by omega
        have hL := congrArg List.length HT.out
        have hLr := congrArg List.length HR.out
        have hLm := HLEN.out
        simp only [F.txB, List.length_append] at hL hLr
        have ht8 := hBr
        have hblk := Blk.new wr #[.string wd, .slice kc kd.len kcap, .bool rw1, .int .i64 p1] 35
        have hX0 := (Ext.refl (fun _ => False) wr).alloc (.cells #[.string wd, .slice kc kd.len kcap, .bool rw1, .int .i64 p1] 35)
        obtain ⟨hw0, hb0, ho0⟩ := HW.out
        have hWa : WB B b acc (wr.alloc (.cells #[.string wd, .slice kc kd.len kcap, .bool rw1, .int .i64 p1] 35)) := Lib.IsBuilderF.alloc hw0 _
        have hba := hb0.alloc hBr (.cells #[.string wd, .slice kc kd.len kcap, .bool rw1, .int .i64 p1] 35)
        have hoa := ho0.alloc (.cells #[.string wd, .slice kc kd.len kcap, .bool rw1, .int .i64 p1] 35)
        have hbw := hw0.lt
        have hbB := hw0.le
        have hne : wr.heap.size ≠ b := by omega
        have hsep : ∃ acc2, acc2 = acc ++ (if decide (0 < k) = true then [32] else []) := ⟨_, rfl⟩
        obtain ⟨acc2, hacc2⟩ := hsep
        have hT2 : acc2 ++ ((if rw1 then 40 :: (F.txB false kd ++ [41]) else wd.data.toList) ++ F.txB true t) = res := by rw [hacc2]; have := HT.out; simpa [F.txB] using this
        have HT2 := Lib.hid hT2
        have hL2 := congrArg List.length hT2
        simp only [List.length_append] at hL2
        have hlr : res.length ≤ 140737488355328 := by rw [← HR.out]; simpa using hLm
        clear hT2 hL hLr hLm HT HLEN HR hw0 hb0 ho0 HW
        have HK := Lib.hid hk
        have hBa : B ≤ (wr.alloc (.cells #[.string wd, .slice kc kd.len kcap, .bool rw1, .int .i64 p1] 35)).heap.size := by simp; omega
        have hsl0 := asl.ext hX0 (fun _ _ h => h)
        have harr := RowAt.ext hX0 (fun _ _ h => h) id _ _ AR.out
        have AR0 := Lib.hid harr
        have WA := Lib.hid (And.intro hWa (And.intro hba hoa))
        clear hWa hba hoa hX0 harr AR asl HAR
        cases rw1 with
        | false =>
          rcases Nat.eq_zero_or_pos k with hz | hz
          case' inl =>
            subst hz
            obtain rfl : acc2 = acc := by simpa using hacc2
            simp only [Nat.zero_mul, Nat.add_zero] at a0 a1 a2 a3
            go_wp2_with fail
            obtain ⟨hw2, hb2, ho2⟩ := WA.out
            clear WA a0 a1 a2 a3
            generalize hgw : wr.alloc (.cells #[.string wd, .slice kc kd.len kcap, .bool false, .int .i64 p1] 35) = w2 at *
            generalize htb : wr.heap.size = tb at *
            clear hgw htb
          case' inr =>
            have hz' : (0 : Int) < (k : Int) := by omega
            obtain rfl : acc2 = acc ++ [32] := by rw [hacc2]; simp [hz]
            simp only [List.length_append, List.length_cons, List.length_nil] at hL2
            go_wp2_with fail
            refine (writeByte_any B b acc 32 _ WA.out.1 (by omega) hBa).mono ?_
            rintro e w2 ⟨rfl, hw2, hb2', ho2'⟩
            have hb2 := WA.out.2.1.trans hb2'
            have ho2 := WA.out.2.2.trans ho2'
            have hblk := hblk.kept ho2' hne (by decide)
            have hsl0 := hsl0.ext (Ext.ofBelowB hb2') (fun b hb => by omega)
            have harr := RowAt.ext (Ext.ofBelowB hb2') (fun b hb => by omega) (by omega) _ _ AR0.out
            have hBa := Nat.le_trans hBa hb2'.size
            have tc2 := hblk.cell 2
            simp only [List.getElem?_toArray, List.getElem?_cons_succ, List.getElem?_cons_zero] at tc2
            have AR0 := Lib.hid harr
            clear hb2' ho2' harr WA a0 a1 a2 a3
            go_wp2_with fail
            generalize wr.heap.size = tb at *
          all_goals
            have tc0 := hblk.cell 0
            simp at tc0
            refine wp_region_quiet_tail 5 (by kernel_rfl) (by kernel_rfl) ?_
            simp only [List.take_succ_cons, List.take_zero, List.drop_succ_cons, List.drop_zero]
            repeat (go_big_quiet_step (fail))
            refine wpQuiet_nil ?_
            rintro w' ⟨nq, rfl⟩
            go_wp2_with fail
            have hsize : wd.data.toList.length = wd.size := by simp
            simp only [Bool.false_eq_true, if_false, hsize] at hL2
            refine (writeString_any B b _ wd _ (show WB B b _ (w2.drewN nq) from hw2) (by first | omega | (simp only [List.length_append, List.length_cons, List.length_nil]; omega)) (by exact hBa)).mono ?_
            rintro e w3 ⟨rfl, hw3, hb3, ho3⟩
            have hb03 := (below_drewN hb2 nq).trans hb3
            have ho03 := (kept_drewN ho2 nq).trans ho3
            have harr3 := (AR0.out.drewN nq).ext (Ext.ofBelowB hb3) (fun b hb => by omega) (by omega)
            have AR3 := Lib.hid harr3
            have hBa3 : B ≤ w3.heap.size := Nat.le_trans hBa hb3.size
            clear harr3 hb3 ho3 hw2 hb2 ho2 hblk tc0 AR0 hBa hsl0
            go_wp2_with fail
            go_roundg t.len
            case measure => simp only [F.len]; omega
            case rel =>
              first
              | refine ⟨k + 1, _, t, by simp, ?_, rfl, Lib.hid ⟨hw3, hb03, ho03⟩, hBa3, ?_, ?_, by simp only [F.size] at hsr; omega⟩
              | refine ⟨0 + 1, _, t, by simp, ?_, rfl, Lib.hid ⟨hw3, hb03, ho03⟩, hBa3, ?_, ?_, by simp only [F.size] at hsr; omega⟩
              · refine Eq.trans ?_ HK.out; omega
              · have harr := AR3.out
                first
                | exact harr
                | (rw [show oa + k * 4 + 4 = oa + (k + 1) * 4 by omega] at harr; exact harr)
                | (rw [show oa + 0 * 4 + 4 = oa + (0 + 1) * 4 by omega] at harr; exact harr)
              · have ht := HT2.out
                refine Lib.hid ?_
                simpa using ht
        | true =>
          rcases Nat.eq_zero_or_pos k with hz | hz
          case' inl =>
            subst hz
            obtain rfl : acc2 = acc := by simpa using hacc2
            simp only [Nat.zero_mul, Nat.add_zero] at a0 a1 a2 a3
            go_wp2_with fail
            obtain ⟨hw2, hb2, ho2⟩ := WA.out
            clear WA a0 a1 a2 a3
            generalize hgw : wr.alloc (.cells #[.string wd, .slice kc kd.len kcap, .bool true, .int .i64 p1] 35) = w2 at *
            generalize htb : wr.heap.size = tb at *
            clear hgw htb
          case' inr =>
            have hz' : (0 : Int) < (k : Int) := by omega
            obtain rfl : acc2 = acc ++ [32] := by rw [hacc2]; simp [hz]
            simp only [List.length_append, List.length_cons, List.length_nil] at hL2
            go_wp2_with fail
            refine (writeByte_any B b acc 32 _ WA.out.1 (by omega) hBa).mono ?_
            rintro e w2 ⟨rfl, hw2, hb2', ho2'⟩
            have hb2 := WA.out.2.1.trans hb2'
            have ho2 := WA.out.2.2.trans ho2'
            have hblk := hblk.kept ho2' hne (by decide)
            have hsl0 := hsl0.ext (Ext.ofBelowB hb2') (fun b hb => by omega)
            have harr := RowAt.ext (Ext.ofBelowB hb2') (fun b hb => by omega) (by omega) _ _ AR0.out
            have hBa := Nat.le_trans hBa hb2'.size
            have tc2 := hblk.cell 2
            simp only [List.getElem?_toArray, List.getElem?_cons_succ, List.getElem?_cons_zero] at tc2
            have AR0 := Lib.hid harr
            clear hb2' ho2' harr WA a0 a1 a2 a3
            go_wp2_with fail
            generalize wr.heap.size = tb at *
          all_goals
            have tc1 := hblk.cell 1
            simp at tc1
            simp only [if_true, List.length_cons, List.length_append, List.length_nil] at hL2
            refine (writeByte_any B b _ 40 _ hw2 (by first | omega | (simp only [List.length_append, List.length_cons, List.length_nil]; omega)) (by exact hBa)).mono ?_
            rintro e w3 ⟨rfl, hw3, hb3, ho3⟩
            have hb03 := hb2.trans hb3
            have ho03 := ho2.trans ho3
            have hblk := hblk.kept ho3 hne (by decide)
            have hsl0 := hsl0.ext (Ext.ofBelowB hb3) (fun b hb => by omega)
            have harr3 := (AR0.out).ext (Ext.ofBelowB hb3) (fun b hb => by omega) (by omega)
            have AR3 := Lib.hid harr3
            have hBa3 : B ≤ w3.heap.size := Nat.le_trans hBa hb3.size
            have tc1 := hblk.cell 1
            simp only [List.getElem?_toArray, List.getElem?_cons_succ, List.getElem?_cons_zero] at tc1
            clear harr3 hb3 ho3 hw2 hb2 ho2 AR0 hBa
            go_wp2_with fail
            have hkd : kd.size < n := by simp only [F.size] at hsr; omega
            refine (IH.out kd _ _ _ hkd hsl0 hw3 hBa3 (by simp only [List.length_append, List.length_cons, List.length_nil, F.tx]; omega)).mono ?_
            rintro e w4 ⟨rfl, hw4, hb4, ho4⟩
            have hb04 := hb03.trans hb4
            have ho04 := ho03.trans ho4
            have harr4 := (AR3.out).ext (Ext.ofBelowB hb4) (fun b hb => by omega) (by omega)
            have AR4 := Lib.hid harr4
            have hBa4 : B ≤ w4.heap.size := Nat.le_trans hBa3 hb4.size
            clear harr4 hb4 ho4 hw3 hb03 ho03 AR3 hBa3 hsl0 hblk tc1
            go_wp2_with fail
            refine (writeByte_any B b _ 41 _ hw4 (by simp only [List.length_append, List.length_cons, List.length_nil, F.tx]; omega) (by exact hBa4)).mono ?_
            rintro e w5 ⟨rfl, hw5, hb5, ho5⟩
            have hb05 := hb04.trans hb5
            have ho05 := ho04.trans ho5
            have harr5 := (AR4.out).ext (Ext.ofBelowB hb5) (fun b hb => by omega) (by omega)
            have AR5 := Lib.hid harr5
            have hBa5 : B ≤ w5.heap.size := Nat.le_trans hBa4 hb5.size
            clear harr5 hb5 ho5 hw4 hb04 ho04 AR4 hBa4
            go_wp2_with fail
            go_roundg t.len
            case measure => simp only [F.len]; omega
            case rel =>
              first
              | refine ⟨k + 1, _, t, by simp, ?_, rfl, Lib.hid ⟨hw5, hb05, ho05⟩, hBa5, ?_, ?_, by simp only [F.size] at hsr; omega⟩
              | refine ⟨0 + 1, _, t, by simp, ?_, rfl, Lib.hid ⟨hw5, hb05, ho05⟩, hBa5, ?_, ?_, by simp only [F.size] at hsr; omega⟩
              · refine Eq.trans ?_ HK.out; omega
              · have harr := AR5.out
                first
                | exact harr
                | (rw [show oa + k * 4 + 4 = oa + (k + 1) * 4 by omega] at harr; exact harr)
                | (rw [show oa + 0 * 4 + 4 = oa + (0 + 1) * 4 by omega] at harr; exact harr)
              · have ht := HT2.out
                refine Lib.hid ?_
                simpa [F.tx] using ht

set_option maxRecDepth 100000 in
theorem text_any {D : Nat → Prop} {f : F} {va : Value} {w : World} (hf : Sl D w va f) (hlen : f.tx.length ≤ 140737488355328) :
    Calls Tryd.prog 9 #[va] w fun e w' => e = .returned (.string ⟨f.tx.toArray⟩) ∧ Ext (fun _ => False) w w' := by
  have hs0 : Sl (· < w.heap.size) w va f := hf.mono fun _ _ h => h
  go_enter Tryd.func9, Tryd.ntmps9
  go_wp2_with fail
  have hw0 : WB w.heap.size w.heap.size [] (w.alloc (.cells #[.pointer none, .slice none 0 0] 69)) :=
    .inl ⟨Nat.le_refl _, .slice none 0 0, heap_alloc_new w _, ⟨rfl, .inl ⟨rfl, rfl⟩⟩, by simp [Value.ownBlock]⟩
  have hx0 := (Ext.refl (fun _ => False) w).alloc (.cells #[.pointer none, .slice none 0 0] 69)
  refine (trees_calls w.heap.size w.heap.size (f.size + 1) f va [] _ (by omega) (hs0.ext hx0 (fun _ _ h => h)) hw0 (by simp) (by simpa using hlen)).mono ?_
  rintro e w1 ⟨rfl, hw1, hb1, ho1⟩
  have hx1 := hx0.below.trans hb1
  have hB1 : w.heap.size ≤ w1.heap.size := hx1.size
  clear hw0 hx0 hb1 ho1 hf hs0
  go_wp2_with fail
  refine (bString_any_k w.heap.size w.heap.size _ w1 hw1 hB1).mono ?_
  rintro e w2 ⟨rfl, hw2, hb2, ho2⟩
  go_wp2_with fail
  go_ret
  exact ⟨by simp, Ext.ofBelow (hx1.trans hb2)⟩

end Go.Proofs.YthiaikbdghmnbaaDoor
