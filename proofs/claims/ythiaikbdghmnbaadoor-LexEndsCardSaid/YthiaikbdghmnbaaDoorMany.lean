/- Walks: many; the reference's Text and Deep; turned. -/
import Derived.Test.YthiaikbdghmnbaaDoorArg
import Derived.Test.YthiaikbdghmnbaaDoorTrees
import Derived.Test.YthiaikbdghmnbaaDoorRefMem
namespace Go.Proofs.YthiaikbdghmnbaaDoor
open Go.RowKit

namespace F
/-- How many trees, as far as it is asked: the rest, the most, those till now. -/
def many : F → Int → Int → Int
  | .nil, _, n => n
  | .cons wd _ _ k t, most, n => if n ≤ most then many t most (n + 1 + (wd.size : Int) / 8 + many k (most - n) 0) else n

theorem many_le : ∀ (f : F) (most n : Int), n ≤ f.many most n ∧ f.many most n ≤ n + f.wt
  | .nil, _, n => by simp [many, wt]
  | .cons wd r p k t, most, n => by
    simp only [many, wt]
    split
    · have h1 := many_le k (most - n) 0
      have h2 := many_le t most (n + 1 + (wd.size : Int) / 8 + k.many (most - n) 0)
      omega
    · omega
end F

set_option maxRecDepth 100000 in
set_option maxHeartbeats 2000000 in
theorem many_calls (D : Nat → Prop) : ∀ (n : Nat) (f : F) (va : Value) (most : Int) (w : World), f.size < n → f.wt ≤ 1048576 → 0 ≤ most → most ≤ 2000 → Sl D w va f →
    Calls Tryd.prog 28 #[va, .int .i64 most] w fun e w' => e = .returned (.int .i64 (f.many most 0)) ∧ ∃ n, w' = w.drewN n := by
  intro n
  induction n with
  | zero => intro f va most w h; omega
  | succ n ih =>
    intro f va most w hsz hwt hm0 hm1 hf
    have IH := Lib.hid ih
    clear ih
    obtain ⟨a, cap, ba, oa, rfl, ha1, ha2, ha, har⟩ := hf.rowAt'
    clear hf
    unfold maxLen at ha2
    have HA := Lib.hid ha
    have HAR := Lib.hid har
    clear ha har
    generalize hres : f.many most 0 = res
    have HR := Lib.hid hres
    clear hres
    go_enter Tryd.func28, Tryd.ntmps28
    go_wp2_with fail
    go_loopg [5, 6] f.len (fun q nv iv wr => ∃ (k : Nat) (m : Int) (r : F), iv = .int .i64 k ∧ nv = .int .i64 m ∧ k + r.len = f.len ∧ q = r.len ∧ 0 ≤ m ∧ m + r.wt ≤ f.wt ∧ (∃ nq, wr = w.drewN nq) ∧
        Hid (RowAt D wr ba r (oa + k * 4)) ∧ Hid (r.many most m = res) ∧ r.size ≤ f.size)
    case atStart => exact ⟨0, 0, f, rfl, rfl, by omega, rfl, by omega, by omega, ⟨0, rfl⟩, by rw [Nat.zero_mul, Nat.add_zero]; exact HAR, HR, Nat.le_refl _⟩
    case round =>
      obtain ⟨k, m, r, rfl, rfl, hk, rfl, hmz, hmw, hwr, HAR, HM, hsr⟩ := hrel
      have HWR := Lib.hid hwr
      clear hwr
      cases r with
      | nil =>
        simp only [F.len] at hk
        have hkd : decide ((k : Int) < (f.len : Int)) = false := by simp; omega
        obtain rfl : m = res := HM.out
        go_wp2_with fail
        go_ret
        exact ⟨rfl, HWR.out⟩
      | cons wd rw1 p1 kd t =>
        simp only [F.len] at hk
        have hk0 : (0 : Int) ≤ (k : Int) := by omega
        have hk1 : (k : Int) < (f.len : Int) := by omega
        by_cases hmm : m ≤ most
        · obtain ⟨rfl, _⟩ := HA.out (by omega)
          obtain ⟨a0, ⟨av, a1, asl⟩, a2, a3, hwd, ar⟩ := HAR.out
          have AR := Lib.hid ar
          clear ar
          have hkd : kd.size < n := by simp only [F.size] at hsr; omega
          simp only [F.wt] at hmw
          have hml := F.many_le kd (most - m) 0
          have HM2 : Hid (t.many most (m + 1 + (wd.size : Int) / 8 + kd.many (most - m) 0) = res) := Lib.hid (by
            have := HM.out
            simp only [F.many] at this
            rw [if_pos hmm] at this
            exact this)
          have HC : Hid (∀ x, Calls Tryd.prog 28 #[av, .int .i64 (most - m)] (wr.drewN x) fun e w' => e = .returned (.int .i64 (kd.many (most - m) 0)) ∧ ∃ n, w' = (wr.drewN x).drewN n) :=
            Lib.hid (fun x => IH.out kd av (most - m) (wr.drewN x) hkd (by omega) (by omega) (by omega) (asl.drewN x))
          generalize kd.many (most - m) 0 = km at *
          go_wp2_with fail
          go_quiet ((go_at_call 28; refine Calls.quiet_of (HC.out _)))
          go_wp2_with fail
          go_roundg t.len
          case measure => simp only [F.len]; omega
          case rel =>
            refine ⟨k + 1, _, t, by simp, rfl, by omega, rfl, by omega, by omega, ?_, ?_, HM2, by simp only [F.size] at hsr; omega⟩
            · obtain ⟨x, rfl⟩ := HWR.out
              exact ⟨x + nq, by simp⟩
            · have := AR.out.drewN nq
              rw [show oa + k * 4 + 4 = oa + (k + 1) * 4 by omega] at this
              exact this
        · have hmb : decide (m ≤ most) = false := decide_eq_false hmm
          obtain rfl : m = res := by
            have := HM.out
            simp only [F.many] at this
            rw [if_neg hmm] at this
            exact this
          go_wp2_with fail
          go_ret
          exact ⟨rfl, HWR.out⟩

set_option maxHeartbeats 2000000 in
theorem refDeep_calls (D : Nat → Prop) : ∀ (n : Nat) (f : F) (va : Value) (w : World), f.size < n → n < 4611686018427387904 → Sl D w va f →
    Calls Tryd.prog 31 #[va] w fun e w' => e = .returned (.int .i64 f.deep) ∧ Ext (fun _ => False) w w' := by
  intro n
  induction n with
  | zero => intro f va w h; omega
  | succ n ih =>
    intro f va w hsz hn hf
    have IH := Lib.hid ih
    clear ih
    obtain ⟨a, cap, ba, oa, rfl, ha1, ha2, ha, har⟩ := hf.rowAt'
    clear hf
    unfold maxLen at ha2
    have HA := Lib.hid ha
    have HAR := Lib.hid har
    clear ha har
    go_enter Tryd.func31, Tryd.ntmps31
    go_wp2_with fail
    go_loopg [3, 4] f.len (fun q m i wr => ∃ (k mo : Nat) (r : F), i = .int .i64 k ∧ m = .int .i64 mo ∧ k + r.len = f.len ∧ q = r.len ∧ Ext (fun _ => False) w wr ∧
        Hid (RowAt D wr ba r (oa + k * 4)) ∧ Hid (max mo r.deep = f.deep) ∧ r.size ≤ f.size ∧ mo ≤ f.size)
    case atStart => exact ⟨0, 0, f, rfl, rfl, by omega, rfl, Ext.refl _ _, by rw [Nat.zero_mul, Nat.add_zero]; exact HAR, show _ = _ by simp, Nat.le_refl _, Nat.zero_le _⟩
    case round =>
      obtain ⟨k, mo, r, rfl, rfl, hk, rfl, hext, HAR, HM, hsr, hmo⟩ := hrel
      cases r with
      | nil =>
        simp only [F.len] at hk
        have hm := HM.out
        simp only [F.deep] at hm
        obtain rfl : mo = f.deep := by omega
        have hkd : decide ((k : Int) < (f.len : Int)) = false := by simp; omega
        clear hm
        go_wp2_with fail
        go_ret
        exact ⟨rfl, hext⟩
      | cons wd rw1 p1 kd t =>
        simp only [F.len] at hk
        obtain ⟨rfl, _⟩ := HA.out (by omega)
        obtain ⟨a0, ⟨av, a1, asl⟩, a2, a3, _, ar⟩ := HAR.out
        obtain ⟨kc, kcap, rfl, _, _⟩ := asl.shape
        have AR := Lib.hid ar
        clear ar
        have hk0 : (0 : Int) ≤ (k : Int) := by omega
        have hk1 : (k : Int) < (f.len : Int) := by omega
        cases rw1 with
        | false =>
          go_wp2_with fail
          go_roundg t.len
          case measure => simp only [F.len]; omega
          case rel =>
            refine ⟨k + 1, mo, t, by simp, rfl, by omega, rfl, hext, ?_, ?_, by simp only [F.size] at hsr; omega, hmo⟩
            · have := AR.out
              rw [show oa + k * 4 + 4 = oa + (k + 1) * 4 by omega] at this
              exact this
            · have := HM.out; simp only [F.deep] at this; exact show _ = _ by simpa using this
        | true =>
          have hkd : kd.size < n := by simp only [F.size] at hsr; omega
          have hdk := F.deep_le_size kd
          go_wp2_with fail
          refine (IH.out kd _ _ hkd (by omega) asl).mono ?_
          rintro e w2 ⟨rfl, hx2⟩
          have hAR := RowAt.ext hx2 (fun _ _ h => h) id _ _ AR.out
          have AR2 := Lib.hid hAR
          have hX2 := hext.trans' hx2
          clear hAR hx2 AR asl IH
          have hmx : ∀ x : Nat, x = max mo (kd.deep + 1) → max x t.deep = f.deep := fun x hx => by
            have := HM.out; simp only [F.deep] at this; simp at this; omega
          have HMX := Lib.hid hmx
          clear hmx HM
          go_wp2_with fail
          all_goals
            go_roundg t.len
            case measure => simp only [F.len]; omega
            case rel =>
              refine ⟨k + 1, max mo (kd.deep + 1), t, by simp, ?_, by omega, rfl, hX2, ?_, HMX.out _ rfl, by simp only [F.size] at hsr; omega, ?_⟩
              · refine congrArg (Value.int .i64) ?_; omega
              · have := AR2.out
                rw [show oa + k * 4 + 4 = oa + (k + 1) * 4 by omega] at this
                exact this
              · simp only [F.size] at hsr; omega

set_option maxHeartbeats 2000000 in
theorem refText_calls (D : Nat → Prop) : ∀ (n : Nat) (f : F) (va : Value) (w : World), f.size < n → f.tx.length ≤ 1073741824 → Sl D w va f →
    Calls Tryd.prog 29 #[va] w fun e w' => e = .returned (.string ⟨f.tx.toArray⟩) ∧ w = w' := by
  intro n
  induction n with
  | zero => intro f va w h; omega
  | succ n ih =>
    intro f va w hsz hlen hf
    have IH := Lib.hid ih
    clear ih
    obtain ⟨a, cap, ba, oa, rfl, ha1, ha2, ha, har⟩ := hf.rowAt'
    clear hf
    unfold maxLen at ha2
    have HA := Lib.hid ha
    have HAR := Lib.hid har
    clear ha har
    generalize hres : f.tx = res at *
    have HR := Lib.hid hres
    clear hres
    go_enter Tryd.func29, Tryd.ntmps29
    go_wp2_with fail
    go_loopg [3, 4] f.len (fun q sv iv wr => ∃ (k : Nat) (b : ByteArray) (r : F), iv = .int .i64 k ∧ sv = .string b ∧ k + r.len = f.len ∧ q = r.len ∧ w = wr ∧
        Hid (RowAt D wr ba r (oa + k * 4)) ∧ Hid (b.data.toList ++ r.txB (decide (0 < k)) = res) ∧ r.size ≤ f.size)
    case atStart => exact ⟨0, ⟨#[]⟩, f, rfl, rfl, by omega, rfl, rfl, by rw [Nat.zero_mul, Nat.add_zero]; exact HAR, HR, Nat.le_refl _⟩
    case round =>
      obtain ⟨k, b, r, rfl, rfl, hk, rfl, rfl, HAR, HT, hsr⟩ := hrel
      have hL := congrArg List.length HT.out
      rw [List.length_append, ← Lib.size_eq] at hL
      cases r with
      | nil =>
        simp only [F.len] at hk
        have hkd : decide ((k : Int) < (f.len : Int)) = false := by simp; omega
        have hb : b = ⟨res.toArray⟩ := bytes_ext (by have := HT.out; simpa [F.txB] using this)
        go_wp2_with fail
        go_ret
        exact ⟨by rw [hb]; rfl, rfl⟩
      | cons wd rw1 p1 kd t =>
        simp only [F.len] at hk
        obtain ⟨rfl, _⟩ := HA.out (by omega)
        obtain ⟨a0, ⟨av, a1, asl⟩, a2, a3, _, ar⟩ := HAR.out
        have AR := Lib.hid ar
        clear ar
        have hk0 : (0 : Int) ≤ (k : Int) := by omega
        have hk1 : (k : Int) < (f.len : Int) := by omega
        simp only [F.txB, List.length_append] at hL
        rcases Nat.eq_zero_or_pos k with hz | hz
        · subst hz
          simp only [Nat.zero_mul, Nat.add_zero] at a0 a1 a2 a3
          simp only [Nat.lt_irrefl, decide_false, Bool.false_eq_true, if_false, List.length_nil] at hL
          cases rw1 with
          | false =>
            simp only [Bool.false_eq_true, if_false, ← Lib.size_eq] at hL
            have h1 : ¬ 9223372036854775807 < b.size + wd.size := by omega
            go_wp2_with fail
            go_roundg t.len
            case measure => simp only [F.len]; omega
            case rel =>
              refine ⟨0 + 1, _, t, by simp, rfl, by omega, rfl, rfl, ?_, ?_, by simp only [F.size] at hsr; omega⟩
              · have := AR.out
                rw [show oa + 0 * 4 + 4 = oa + (0 + 1) * 4 by omega] at this
                exact this
              · have := HT.out
                simp only [F.txB] at this
                refine Lib.hid ?_
                simpa [Joins.data_append] using this
          | true =>
            obtain ⟨kb, hkb⟩ : ∃ kb : ByteArray, kb = ⟨kd.tx.toArray⟩ := ⟨_, rfl⟩
            have hkl : kb.data.toList = kd.tx := by rw [hkb]
            have hks : kb.size = (F.txB false kd).length := by rw [Lib.size_eq, hkl]; rfl
            simp only [if_true, List.length_cons, List.length_append, List.length_nil] at hL
            have hc := IH.out kd av w (by simp only [F.size] at hsr; omega) (by unfold F.tx; omega) asl
            rw [← hkb] at hc
            have HC := Lib.hid hc
            have HKL := Lib.hid hkl
            have h1 : ¬ 9223372036854775807 < b.size + 1 := by omega
            have h2 : ¬ 9223372036854775807 < b.size + 1 + kb.size := by omega
            have h3 : ¬ 9223372036854775807 < b.size + 1 + kb.size + 1 := by omega
            clear hc hkb hkl IH
            go_wp2_with fail
            refine HC.out.mono ?_
            rintro e w2 ⟨rfl, rfl⟩
            go_wp2_with fail
            go_roundg t.len
            case measure => simp only [F.len]; omega
            case rel =>
              refine ⟨0 + 1, _, t, by simp, rfl, by omega, rfl, rfl, ?_, ?_, by simp only [F.size] at hsr; omega⟩
              · have := AR.out
                rw [show oa + 0 * 4 + 4 = oa + (0 + 1) * 4 by omega] at this
                exact this
              · have := HT.out
                simp only [F.txB] at this
                refine Lib.hid ?_
                have hk2 := HKL.out
                unfold F.tx at hk2
                simpa [Joins.data_append, hk2] using this
        · have hz' : (0 : Int) < (k : Int) := by omega
          simp only [hz, decide_true, if_true, List.length_cons, List.length_nil] at hL
          have hb1 : ¬ 9223372036854775807 < b.size + 1 := by omega
          cases rw1 with
          | false =>
            simp only [Bool.false_eq_true, if_false, ← Lib.size_eq] at hL
            have h1 : ¬ 9223372036854775807 < b.size + 1 + wd.size := by omega
            go_wp2_with fail
            go_roundg t.len
            case measure => simp only [F.len]; omega
            case rel =>
              refine ⟨k + 1, _, t, by simp, rfl, by omega, rfl, rfl, ?_, ?_, by simp only [F.size] at hsr; omega⟩
              · have := AR.out
                rw [show oa + k * 4 + 4 = oa + (k + 1) * 4 by omega] at this
                exact this
              · have := HT.out
                simp only [F.txB, hz, decide_true, if_true] at this
                refine Lib.hid ?_
                simpa [Joins.data_append] using this
          | true =>
            obtain ⟨kb, hkb⟩ : ∃ kb : ByteArray, kb = ⟨kd.tx.toArray⟩ := ⟨_, rfl⟩
            have hkl : kb.data.toList = kd.tx := by rw [hkb]
            have hks : kb.size = (F.txB false kd).length := by rw [Lib.size_eq, hkl]; rfl
            simp only [if_true, List.length_cons, List.length_append, List.length_nil] at hL
            have hc := IH.out kd av w (by simp only [F.size] at hsr; omega) (by unfold F.tx; omega) asl
            rw [← hkb] at hc
            have HC := Lib.hid hc
            have HKL := Lib.hid hkl
            have h1 : ¬ 9223372036854775807 < b.size + 1 + 1 := by omega
            have h2 : ¬ 9223372036854775807 < b.size + 1 + 1 + kb.size := by omega
            have h3 : ¬ 9223372036854775807 < b.size + 1 + 1 + kb.size + 1 := by omega
            clear hc hkb hkl IH
            go_wp2_with fail
            refine HC.out.mono ?_
            rintro e w2 ⟨rfl, rfl⟩
            go_wp2_with fail
            go_roundg t.len
            case measure => simp only [F.len]; omega
            case rel =>
              refine ⟨k + 1, _, t, by simp, rfl, by omega, rfl, rfl, ?_, ?_, by simp only [F.size] at hsr; omega⟩
              · have := AR.out
                rw [show oa + k * 4 + 4 = oa + (k + 1) * 4 by omega] at this
                exact this
              · have := HT.out
                simp only [F.txB, hz, decide_true, if_true] at this
                refine Lib.hid ?_
                have hk2 := HKL.out
                unfold F.tx at hk2
                simpa [Joins.data_append, hk2] using this

set_option maxRecDepth 100000 in
set_option maxHeartbeats 4000000 in
theorem turned_calls (B : Nat) : ∀ (n : Nat) (f : F) (va : Value) (w : World), f.size < n → f.size ≤ 1073741824 → Sl (· < B) w va f → B ≤ w.heap.size →
    Calls Tryd.prog 30 #[va] w fun e w' => Ext (fun _ => False) w w' ∧ ∃ v, e = .returned v ∧ Sl (w.heap.size ≤ ·) w' v f := by
  intro n
  induction n with
  | zero => intro f va w h; omega
  | succ n ih =>
    intro f va w hsz hmx hf hB
    have IH := Lib.hid ih
    clear ih
    obtain ⟨a, cap, ba, oa, rfl, ha1, ha2, ha, har⟩ := hf.rowAt'
    clear hf
    unfold maxLen at ha2
    have HA := Lib.hid ha
    have HAR := Lib.hid har
    clear ha har
    go_enter Tryd.func30, Tryd.ntmps30
    go_wp2_with fail
    go_loopg [3, 4] f.len (fun q ov iv wr => ∃ (k : Nat) (g r : F) (xs : List Value), iv = .int .i64 k ∧ k + r.len = f.len ∧ g.len = k ∧ q = r.len ∧ Ext (fun _ => False) w wr ∧ wr.ownsRow w.heap.size 83 4 ov k xs ∧
        Elems (fun b => w.heap.size ≤ b ∧ ov.ownBlock ≠ some b) wr g xs ∧ Hid (RowAt (· < B) wr ba r (oa + k * 4)) ∧ Hid (g.app r = f) ∧ r.size ≤ f.size)
    case atStart => exact ⟨0, .nil, f, [], rfl, by omega, rfl, rfl, Ext.refl _ _, World.ownsRow_nil _ _ _ _, rfl, by rw [Nat.zero_mul, Nat.add_zero]; exact HAR, rfl, Nat.le_refl _⟩
    case round =>
      obtain ⟨k, g, r, xs, rfl, hk, hgl, rfl, hext, hown, hel, HAR, HG, hsr⟩ := hrel
      cases r with
      | nil =>
        simp only [F.len] at hk
        have hkd : decide ((k : Int) < (f.len : Int)) = false := by simp; omega
        obtain rfl : g = f := by have := HG.out; rwa [F.app_nil] at this
        obtain rfl : k = g.len := hgl.symm
        go_wp2_with fail
        go_ret
        exact ⟨hext, _, rfl, sl_owned hown hel⟩
      | cons wd rw1 p1 kd t =>
        simp only [F.len] at hk
        obtain ⟨rfl, hbaB⟩ := HA.out (by omega)
        obtain ⟨a0, ⟨av, a1, asl⟩, a2, a3, hwd, ar⟩ := HAR.out
        have hk0 : (0 : Int) ≤ (k : Int) := by omega
        have hk1 : (k : Int) < (f.len : Int) := by omega
        have hkd : kd.size < n := by simp only [F.size] at hsr; omega
        have hBr : B ≤ wr.heap.size := Nat.le_trans hB hext.size
        have hlen := F.len_le_size f
        have HC := Lib.hid (IH.out kd av wr hkd (by simp only [F.size] at hsr; omega) asl hBr)
        go_wp2_with fail
        refine HC.out.mono ?_
        rintro e w1 ⟨hx1, kv, rfl, hks⟩
        obtain ⟨ka, kcap, rfl, _, _⟩ := hks.shape
        have hov := hown.lt
        replace hown := owns_ext hown hx1 (fun _ _ _ h => h)
        replace hel := hel.ext hx1 (fun _ _ h => h)
        have b0 := hx1.cellSome a0 id
        have b2 := hx1.cellSome a2 id
        have b3 := hx1.cellSome a3 id
        have AR := Lib.hid (RowAt.ext hx1 (fun _ _ h => h) id _ _ ar)
        have hX := hext.trans' hx1
        have hbs := hx1.size
        have hwr := hext.size
        clear a0 a1 a2 a3 ar asl hext
        have HX1 := Lib.hid hx1
        clear hx1 HC IH
        go_wp2_with fail
        have nba : u3.ownBlock ≠ some ba := fun e => by have := (hov ba e).1; omega
        haveI ne : Nonempty (Wd (fun x => Ext (fun c => u3.ownBlock = some c) w1 x)) := ⟨⟨w1, Ext.refl _ _⟩⟩
        have q0 : ∀ x : Wd (fun x => Ext (fun c => u3.ownBlock = some c) w1 x), x.w.cell? ⟨ba, oa + k * 4, none⟩ = some (.string wd) := fun x => x.ok.cellSome b0 nba
        have q2 : ∀ x : Wd (fun x => Ext (fun c => u3.ownBlock = some c) w1 x), x.w.cell? ⟨ba, oa + k * 4 + 2, none⟩ = some (.bool rw1) := fun x => x.ok.cellSome b2 nba
        have q3 : ∀ x : Wd (fun x => Ext (fun c => u3.ownBlock = some c) w1 x), x.w.cell? ⟨ba, oa + k * 4 + 3, none⟩ = some (.int .i64 p1) := fun x => x.ok.cellSome b3 nba
        refine wp_region_held (S := fun x => Ext (fun c => u3.ownBlock = some c) w1 x) 18 _ (by kernel_rfl) (by kernel_rfl) rfl (by kernel_rfl) (by kernel_rfl) (fun _ d _ _ _ h => by cases d <;> exact h) (Ext.refl _ _).drew ?_
        simp only [List.length_cons, List.length_nil, Nat.reduceAdd, Nat.reduceSub, List.take_succ_cons, List.take_zero, List.drop_succ_cons, List.drop_zero]
        repeat (go_big_quiet_step (fail))
        refine wpQuiet_nil ?_
        have hx3 := (Ext.refl (fun c => u3.ownBlock = some c) w1).drew
        have hown2 : w1.drew.ownsRow w.heap.size 83 4 u3 k xs := hown
        have hel2 : Elems (fun b => w.heap.size ≤ b ∧ u3.ownBlock ≠ some b) w1.drew g xs := hel.ext ((Ext.refl (fun _ => False) w1).drew) (fun _ _ h => h)
        have hks2 : Sl (wr.heap.size ≤ ·) w1.drew (.slice ka kd.len kcap) kd := hks.ext ((Ext.refl (fun _ => False) w1).drew) (fun _ _ h => h)
        have hbw : w.heap.size ≤ (w1.drew.alloc (.cells #[.string wd, .slice ka kd.len kcap, .bool rw1, .int .i64 p1] 83)).heap.size := Nat.le_trans hX.size (hx3.alloc _).size
        have hm1 : k + 1 ≤ maxLen := by unfold maxLen; omega
        have hm2 : (k + 1) * 56 ≤ 140737488355328 := by omega
        refine wpTail_step rfl (fun K hK => ?_)
        go_simp
        refine hK _ _ (hx3.alloc _) ?_
        clear hK
        refine wpTail_step rfl (fun K hK => ?_)
        refine wp_append_own2 (.tmp 18) (.tmp 36) 37 rfl w.heap.size 83 4 56 Tryd.eltRTree u3 k xs rfl (hown2.alloc _) ⟨w1.drew.heap.size, 0, none⟩ 1 1 [.string wd, .slice ka kd.len kcap, .bool rw1, .int .i64 p1] rfl rfl (new_cells _ _ _) (fun u hu => List.all_eq_true.1 rfl u hu) hm1 hm2 hbw ?_
        intro v' w4 hown4 hg4
        have hg4' : Grew u3 v' (w1.drew.alloc (.cells #[.string wd, .slice ka kd.len kcap, .bool rw1, .int .i64 p1] 83)) w4 := hg4
        have hg5 := hg4'.ofAlloc
        have hx4 : Ext (fun c => u3.ownBlock = some c) w1 w4 := hg4.ext (hx3.alloc _) (fun _ h _ => h)
        refine hK _ _ hx4 ?_
        clear hK
        refine wpTail_nil ?_
        have hX4 : Ext (fun _ => False) w w4 := hX.trans hx4 (fun c hc e => by have := (hov c e).1; omega)
        have AR4 := Lib.hid (RowAt.ext hx4 (fun c hc e => by have := (hov c e).1; have : c < B := hc; omega) nba _ _ AR.out)
        have hel4 := Elems.snoc (p := p1) (r := rw1) (hel2.grew hg5) hwd (Sl.grew (hks2.mono (D' := fun b => w.heap.size ≤ b ∧ u3.ownBlock ≠ some b) (fun b hb _ => by
          have hb' : wr.heap.size ≤ b := hb
          have hxs := HX1.out.size
          refine ⟨by omega, fun e => by have := (hov b e).2; omega⟩)) hg5)
        have HEL := Lib.hid hel4
        have HOWN := Lib.hid hown4
        clear q0 q2 q3 ne hg4 hg4' hg5 hx4 hel4 hown4 hown2 hel2 hks2 hown hel hks hX b0 b2 b3 AR
        go_wp2_with fail
        go_roundg t.len
        case measure => simp only [F.len]; omega
        case rel =>
          refine ⟨k + 1, g.app (.cons wd rw1 p1 kd .nil), t, _, by simp, by omega, ?_, rfl, hX4, HOWN.out, HEL.out, ?_, ?_, by simp only [F.size] at hsr; omega⟩
          · rw [F.len_app]; simp [F.len, hgl]
          · have := AR4.out
            rw [show oa + k * 4 + 4 = oa + (k + 1) * 4 by omega] at this
            exact this
          · have := HG.out
            refine Lib.hid ?_
            rw [F.app_assoc]; exact this

end Go.Proofs.YthiaikbdghmnbaaDoor
