/- Walk: places, where each tree stands at its place. -/
import Derived.Test.YthiaikbdghmnbaaLexDeep
import Derived.Test.YthiaikbdghmnbaaLexTx
namespace Go.Proofs.Ythiaikbdghmnbaa
open Go.RowKit

set_option maxRecDepth 100000 in
set_option maxHeartbeats 4000000 in
theorem places_calls (D : Nat → Prop) (s : ByteArray) (hs : s.size ≤ 262144) : ∀ (n : Nat) (f : F) (va : Value) (w : World) (from_ to : Nat), f.size < n → to ≤ s.size → Sl D w va f → Pl s f from_ to →
    Calls Try.prog 17 #[.string s, va, .int .i64 from_, .int .i64 to] w fun e w' => e = .returned (.bool true) ∧ Ext (fun _ => False) w w' := by
  intro n
  induction n with
  | zero => intro f va w _ _ h; omega
  | succ n ih =>
    intro f va w from_ to hsz hto hf hp
    have IH := Lib.hid ih
    clear ih
    obtain ⟨a, cap, ba, oa, rfl, ha1, ha2, ha, har⟩ := hf.rowAt'
    clear hf
    unfold maxLen at ha2
    have HA := Lib.hid ha
    have HAR := Lib.hid har
    have HP := Lib.hid hp
    clear ha har hp
    go_enter Try.func17, Try.ntmps17
    go_wp2_with fail
    go_loopg [2, 9] f.len (fun q fr i wr => ∃ (k fn : Nat) (r : F), i = .int .i64 k ∧ fr = .int .i64 fn ∧ k + r.len = f.len ∧ q = r.len ∧ Ext (fun _ => False) w wr ∧
        Hid (RowAt D wr ba r (oa + k * 4)) ∧ Hid (Pl s r fn to) ∧ r.size ≤ f.size)
    case atStart => exact ⟨0, from_, f, rfl, rfl, by omega, rfl, Ext.refl _ _, by rw [Nat.zero_mul, Nat.add_zero]; exact HAR, HP, Nat.le_refl _⟩
    case round =>
      obtain ⟨k, fn, r, rfl, rfl, hk, rfl, hext, HAR, HP, hsr⟩ := hrel
      have HX := Lib.hid hext
      clear hext
      cases r with
      | nil =>
        simp only [F.len] at hk
        have hkd : decide ((k : Int) < (f.len : Int)) = false := by simp; omega
        go_wp2_with fail
        go_ret
        exact ⟨rfl, HX.out⟩
      | cons wd rw1 p1 kd t =>
        simp only [F.len] at hk
        obtain ⟨rfl, _⟩ := HA.out (by omega)
        obtain ⟨a0, ⟨av, a1, asl⟩, a2, a3, hwd, ar⟩ := HAR.out
        obtain ⟨kc, kcap, rfl, _, _⟩ := asl.shape
        have AR := Lib.hid ar
        clear ar
        have hk0 : (0 : Int) ≤ (k : Int) := by omega
        have hk1 : (k : Int) < (f.len : Int) := by omega
        have hPl := HP.out
        simp only [Pl] at hPl
        obtain ⟨q, rfl, hq1, hq2, hcase⟩ := hPl
        rcases hcase with ⟨rfl, rfl, hw0, hwt, hex, hpt⟩ | ⟨rfl, hw0, ⟨hqs, hc⟩, en, hen, hen2, hpk, hpt⟩
        · have HPT := Lib.hid hpt
          have HEX := Lib.hid hex
          clear hpt hex
          simp only [F.len] at *
          have i1 : ¬ ((q : Int) < (fn : Int)) := by omega
          have i2 : (q : Int) < (to : Int) := by omega
          have j0 : (((wd.size : Nat) : Int) == 0) = false := by rw [beq_eq_false_iff_ne]; omega
          have j1 : ¬ ((to : Int) - (q : Int) < (wd.size : Int)) := by omega
          have j1b : decide ((to : Int) - (q : Int) < (wd.size : Int)) = false := decide_eq_false j1
          have j2 : (q : Int) + (wd.size : Int) ≤ (s.size : Int) := by omega
          have j3 : (q : Int) ≤ (q : Int) + (wd.size : Int) := by omega
          have hblk := Blk.new wr #[.string wd, .slice kc 0 kcap, .bool false, .int .i64 (q : Int)] 31
          have hxa := (Ext.refl (fun _ => False) wr).alloc (.cells #[.string wd, .slice kc 0 kcap, .bool false, .int .i64 (q : Int)] 31)
          have hx2 := HX.out.trans' hxa
          have harr := RowAt.ext hxa (fun _ _ h => h) id _ _ AR.out
          have AR2 := Lib.hid harr
          clear harr hxa
          go_wp2_with fail
          generalize wr.alloc (.cells #[.string wd, .slice kc 0 kcap, .bool false, .int .i64 (q : Int)] 31) = w2 at *
          generalize wr.heap.size = tb at *
          have tc0 := hblk.cell 0
          have tc1 := hblk.cell 1
          have tc3 := hblk.cell 3
          simp only [List.getElem?_toArray, List.getElem?_cons_succ, List.getElem?_cons_zero] at tc0 tc1 tc3
          have j4 : ((s.extract q (q + wd.size)).toList == wd.toList) = true := by rw [HEX.out]; simp
          go_quiet (fail)
          have AR3 := Lib.hid (AR2.out.drewN nq)
          have hx3 := hx2.drewN nq
          go_wp2_with fail
          go_roundg t.len
          case measure => first | omega | (simp only [F.len]; omega)
          case rel =>
            refine ⟨k + 1, q + wd.size, t, by simp, by simp, by omega, rfl, hx3, ?_, HPT, by simp only [F.size] at hsr; omega⟩
            have := AR3.out
            rw [show oa + k * 4 + 4 = oa + (k + 1) * 4 by omega] at this
            exact this
        · have HPT := Lib.hid hpt
          have HPK := Lib.hid hpk
          have HC := Lib.hid hc
          clear hpt hpk hc
          obtain rfl : wd = ⟨#[]⟩ := by
            obtain ⟨⟨l⟩⟩ := wd
            have : l = [] := List.eq_nil_of_length_eq_zero hw0
            rw [this]
          have i1 : ¬ ((q : Int) < (fn : Int)) := by omega
          have i2 : (q : Int) < (to : Int) := by omega
          have j0 : (((s[q].toNat : Nat) : Int) == 40) = true := by rw [HC.out]; rfl
          have j0p : ((s[q].toNat : Nat) : Int) = 40 := by rw [HC.out]; rfl
          have j1 : (({ data := #[] } : ByteArray).toList == ({ data := #[] } : ByteArray).toList) = true := by simp
          have j2 : decide ((to : Int) < (en : Int)) = false := by simp; omega
          have j3 : (q : Int) < (s.size : Int) := by omega
          have j5 : (0 : Int) ≤ (q : Int) := by omega
          have hkd : kd.size < n := by simp only [F.size] at hsr; omega
          have hblk := Blk.new wr #[.string ⟨#[]⟩, .slice kc kd.len kcap, .bool true, .int .i64 (q : Int)] 31
          have hxa := (Ext.refl (fun _ => False) wr).alloc (.cells #[.string ⟨#[]⟩, .slice kc kd.len kcap, .bool true, .int .i64 (q : Int)] 31)
          have hx2 := HX.out.trans' hxa
          have harr := RowAt.ext hxa (fun _ _ h => h) id _ _ AR.out
          have AR2 := Lib.hid harr
          have hsl2 := asl.ext hxa (fun _ _ h => h)
          clear harr hxa
          have HCALL := fun w2 h => IH.out kd (.slice kc kd.len kcap) w2 (q + 1) en hkd (Nat.le_trans hen2 hto) h HPK.out
          rw [show ((q + 1 : Nat) : Int) = (q : Int) + 1 by omega] at HCALL
          have HCA := Lib.hid HCALL
          clear HCALL IH
          cases t with
          | nil =>
            simp only [F.first] at hen
            simp only [F.len] at hk
            obtain rfl : en = to := by omega
            clear hen
            have l1 : ¬ ((k : Int) + 1 < (f.len : Int)) := by omega
            go_wp2_with fail
            refine (HCA.out _ hsl2).mono ?_
            rintro e w3 ⟨rfl, hx3⟩
            have hblk3 := hblk.ext hx3 id
            have tc3 := hblk3.cell 3
            simp only [List.getElem?_toArray, List.getElem?_cons_succ, List.getElem?_cons_zero] at tc3
            have hx03 := hx2.trans' hx3
            have harr := RowAt.ext hx3 (fun _ _ h => h) id _ _ AR2.out
            have AR3 := Lib.hid harr
            clear harr HCA hx3 AR2 AR hblk hblk3 HAR
            go_wp2_with fail
            go_roundg 0
            case measure => first | omega | (simp only [F.len]; omega)
            case rel =>
              refine ⟨k + 1, q + 1, .nil, by simp, by simp, by first | omega | (simp only [F.len]; omega), by simp only [F.len], hx03, ?_, HPT, by simp only [F.size] at hsr ⊢; omega⟩
              have := AR3.out
              rw [show oa + k * 4 + 4 = oa + (k + 1) * 4 by omega] at this
              exact this
          | cons wd' r' p' kd' t' =>
            simp only [F.first] at hen
            simp only [F.len] at hk
            subst hen
            have l1 : ((k : Int) + 1 < (f.len : Int)) := by omega
            have l2 : (0 : Int) ≤ (k : Int) + 1 := by omega
            obtain ⟨_, _, _, b3, _, _⟩ := AR2.out
            rw [show oa + k * 4 + 4 + 3 = oa + (k + 1) * 4 + 3 by omega] at b3
            go_wp2_with fail
            refine (HCA.out _ hsl2).mono ?_
            rintro e w3 ⟨rfl, hx3⟩
            have hblk3 := hblk.ext hx3 id
            have tc3 := hblk3.cell 3
            simp only [List.getElem?_toArray, List.getElem?_cons_succ, List.getElem?_cons_zero] at tc3
            have hx03 := hx2.trans' hx3
            have harr := RowAt.ext hx3 (fun _ _ h => h) id _ _ AR2.out
            have AR3 := Lib.hid harr
            clear harr HCA hx3 AR2 AR hblk hblk3 HAR
            go_wp2_with fail
            go_roundg (t'.len + 1)
            case measure => first | omega | (simp only [F.len]; omega)
            case rel =>
              refine ⟨k + 1, q + 1, (.cons wd' r' en kd' t'), by simp, by simp, by first | omega | (simp only [F.len]; omega), by simp only [F.len], hx03, ?_, HPT, by simp only [F.size] at hsr ⊢; omega⟩
              have := AR3.out
              rw [show oa + k * 4 + 4 = oa + (k + 1) * 4 by omega] at this
              exact this

theorem places_any {D : Nat → Prop} {s : ByteArray} {f : F} {va : Value} {w : World} (hs : s.size ≤ 262144) (hf : Sl D w va f) (hp : Pl s f 0 s.size) :
    Calls Try.prog 17 #[.string s, va, .int .i64 0, .int .i64 s.size] w fun e w' => e = .returned (.bool true) ∧ Ext (fun _ => False) w w' :=
  places_calls D s hs (f.size + 1) f va w 0 s.size (by omega) (Nat.le_refl _) hf hp

end Go.Proofs.Ythiaikbdghmnbaa
