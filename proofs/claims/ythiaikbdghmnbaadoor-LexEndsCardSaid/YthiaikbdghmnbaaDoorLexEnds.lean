/- Walk: LexEnds, its two loops and its last rows. -/
import Derived.Test.YthiaikbdghmnbaaDoorLexShows
import Derived.Test.YthiaikbdghmnbaaDoorSame
import Derived.Test.YthiaikbdghmnbaaDoorSteps
import Derived.Test.YthiaikbdghmnbaaDoorShelf
import Derived.Test.YthiaikbdghmnbaaDoorLexTx
import Derived.Test.YthiaikbdghmnbaaDoorLexEndsLaw
import Derived.Laws.IdiomStrings
import Derived.Outline
namespace Go.Proofs.YthiaikbdghmnbaaDoor
open Go.RowKit

theorem replaceK_len (old new : List UInt8) : ∀ (k : Nat) (s : List UInt8), (Lib.replaceK old new k s).length ≤ s.length + k * new.length
  | 0, s => by simp [Lib.replaceK]
  | k + 1, s => by
    unfold Lib.replaceK
    split
    · omega
    · have h := replaceK_len old new k (s.drop ((Lib.index s old).toNat + old.length))
      have hk : (k + 1) * new.length = k * new.length + new.length := Nat.succ_mul _ _
      simp only [List.length_append, List.length_take, List.length_drop] at h ⊢
      omega

theorem replaceNum_one (s old : List UInt8) : Lib.replaceNum s old 1 ≤ 1 := by
  unfold Lib.replaceNum
  split
  · rename_i h; omega
  · decide

theorem replace_len (s old new : List UInt8) : (Lib.replace s old new 1).length ≤ s.length + new.length := by
  unfold Lib.replace
  split
  · omega
  · have h1 := replaceK_len old new (Lib.replaceNum s old 1) s
    have h2 := Nat.mul_le_mul_right new.length (replaceNum_one s old)
    omega

theorem replace_any (s new : ByteArray) (m : Int) (w : World) (hs : s.size ≤ 100) (hn : new.size ≤ 100) (hm : w.cell? ⟨0, 0, none⟩ = some (.int .i64 m)) :
    ∃ r : ByteArray, r.size ≤ maxLen ∧ Calls Tryd.prog 5 #[.string s, .string ⟨#[97]⟩, .string new, .int .i64 1] w fun e w' => e = .returned (.string r) ∧ Ext (fun _ => False) w w' := by
  have hc : Lib.countB s ⟨#[97]⟩ ≤ 101 := by
    have h := Lib.count_le s.data.toList [97]
    rw [← Lib.size_eq] at h
    have h' : Lib.countB s ⟨#[97]⟩ ≤ s.size + 1 := h
    omega
  have hm2 : Lib.countB s ⟨#[97]⟩ * new.size ≤ 101 * 100 := Nat.mul_le_mul hc hn
  refine ⟨⟨(Lib.replace s.data.toList [97] new.data.toList 1).toArray⟩, ?_, ?_⟩
  · have h := replace_len s.data.toList [97] new.data.toList
    rw [← Lib.size_eq, ← Lib.size_eq] at h
    have e : (⟨(Lib.replace s.data.toList [97] new.data.toList 1).toArray⟩ : ByteArray).size = (Lib.replace s.data.toList [97] new.data.toList 1).length := by rw [Lib.size_eq]
    rw [e]
    exact Nat.le_trans (Nat.le_trans h (Nat.add_le_add hs hn)) (by decide)
  · exact (Tryd.strings_Replace s ⟨#[97]⟩ new 1 m w (by omega) hm (by decide) (by omega)).mono fun e w' h => ⟨h.1, Ext.ofBelow h.2⟩

theorem app_size (a b : ByteArray) : (a ++ b).size = a.size + b.size := by
  rw [Lib.size_eq (a ++ b), Joins.data_append, List.length_append, ← Lib.size_eq a, ← Lib.size_eq b]
theorem app_le (a b : ByteArray) (m n : Nat) (ha : a.size ≤ m) (hb : b.size ≤ n) (h : m + n ≤ 1073741824) : (a ++ b).size ≤ maxLen := by
  rw [app_size]
  exact Nat.le_trans (Nat.add_le_add ha hb) (Nat.le_trans h (by decide))

/-- 'string([]byte{c})'. -/
theorem conv_one (b : Nat) (cb : UInt8) (c : Int) (w : World) (h : w.cell? ⟨b, 0, none⟩ = some (.int .u8 c)) (hc : (cb.toNat : Int) = c) :
    (convert 25 9 (.slice (some ⟨b, 0, none⟩) 1 1)).run Tryd.prog w = .ok (.string ⟨#[cb]⟩) w := by
  refine run_convert_bytes_back w 25 9 5 ⟨b, 0, none⟩ 1 [cb] Tryd.underlying25 Tryd.underlying5 Tryd.underlying9 ?_
  intro j hj
  obtain rfl : j = 0 := by simpa using hj
  simpa [Addr.add, hc] using h

/-- The seven texts. -/
def seven : List ByteArray := [⟨#[97]⟩, ⟨#[97, 97, 32, 97]⟩, ⟨#[40, 97]⟩, ⟨#[97, 41]⟩, ⟨#[40, 97, 32, 97, 41]⟩, ⟨#[40, 41, 32, 97]⟩, ⟨#[97, 40, 41]⟩]

theorem repeatL_len (l : List UInt8) : ∀ c : Nat, (Lib.repeatL l c).length = l.length * c := by
  intro c
  rw [Lib.repeatL_length, Nat.mul_comm]

theorem repeat_any (s : ByteArray) (c : Nat) (w : World) (hs : s.size ≤ 2) (hc : c ≤ 262144) :
    Calls Tryd.prog 6 #[.string s, .int .i64 c] w fun e w' => e = .returned (.string ⟨(Lib.repeatL s.data.toList c).toArray⟩) ∧ Ext (fun _ => False) w w' := by
  have h := Nat.mul_le_mul hs hc
  exact (Tryd.strings_Repeat s c w (by omega) (by omega)).mono fun e w' h => ⟨h.1, Ext.ofBelow h.2⟩

theorem repeat_size (s : ByteArray) (c : Nat) : (⟨(Lib.repeatL s.data.toList c).toArray⟩ : ByteArray).size = s.size * c := by
  rw [Lib.size_eq, Lib.size_eq s]; exact repeatL_len _ _

set_option maxRecDepth 100000 in
set_option maxHeartbeats 1500000 in
theorem lexEnds_walk (m : Int) (w : World) (hm : w.cell? ⟨0, 0, none⟩ = some (.int .i64 m)) :
    Calls Tryd.prog 3 #[] w fun e w' => e = .returned (.bool true) ∧ Ext (fun _ => False) w w' := by
  go_enter Tryd.func3, Tryd.ntmps3
  go_wp2_with fail
  go_loopg [1] 256 (fun q cv wr => ∃ c : Nat, cv = .int .i64 c ∧ c ≤ 256 ∧ q = 256 - c ∧ Ext (fun _ => False) w wr)
  case atStart => exact ⟨0, rfl, by omega, rfl, Ext.refl _ _⟩
  case round =>
    obtain ⟨c, rfl, hc, rfl, hx⟩ := hrel
    by_cases hlt : c < 256
    · have c0 : (0 : Int) ≤ (c : Int) := by omega
      have c1 : (c : Int) < 256 := by omega
      have HX := Lib.hid hx
      clear hx
      go_wp2_with fail
      have hx1 := HX.out.alloc (.cells #[.string ⟨#[97]⟩, .string ⟨#[97, 97, 32, 97]⟩, .string ⟨#[40, 97]⟩, .string ⟨#[97, 41]⟩, .string ⟨#[40, 97, 32, 97, 41]⟩, .string ⟨#[40, 41, 32, 97]⟩, .string ⟨#[97, 40, 41]⟩] 9)
      have hblk := Blk.new wr #[.string ⟨#[97]⟩, .string ⟨#[97, 97, 32, 97]⟩, .string ⟨#[40, 97]⟩, .string ⟨#[97, 41]⟩, .string ⟨#[40, 97, 32, 97, 41]⟩, .string ⟨#[40, 41, 32, 97]⟩, .string ⟨#[97, 40, 41]⟩] 9
      have hbw := HX.out.size
      generalize wr.alloc (.cells #[.string ⟨#[97]⟩, .string ⟨#[97, 97, 32, 97]⟩, .string ⟨#[40, 97]⟩, .string ⟨#[97, 41]⟩, .string ⟨#[40, 97, 32, 97, 41]⟩, .string ⟨#[40, 41, 32, 97]⟩, .string ⟨#[97, 40, 41]⟩] 9) = w1 at *
      generalize wr.heap.size = bl at *
      go_loopg [3] 7 (fun q iv wi => ∃ i : Nat, iv = .int .i64 i ∧ i ≤ 7 ∧ q = 7 - i ∧ Ext (fun _ => False) w wi ∧ Hid (Blk wi bl #[.string ⟨#[97]⟩, .string ⟨#[97, 97, 32, 97]⟩, .string ⟨#[40, 97]⟩, .string ⟨#[97, 41]⟩, .string ⟨#[40, 97, 32, 97, 41]⟩, .string ⟨#[40, 41, 32, 97]⟩, .string ⟨#[97, 40, 41]⟩] 9))
      case atStart => exact ⟨0, rfl, by omega, rfl, hx1, Lib.hid hblk⟩
      case round =>
        obtain ⟨i, rfl, hi, rfl, hx2, HB⟩ := hrel
        by_cases hi7 : i < 7
        · have i0 : (0 : Int) ≤ (i : Int) := by omega
          have i1 : (i : Int) < 7 := by omega
          obtain ⟨s, hcell, hs⟩ : ∃ s : ByteArray, wr.cell? ⟨bl, i, none⟩ = some (.string s) ∧ s.size ≤ 100 := by
            have hb := HB.out
            rw [hb.cell i]
            match i, hi7 with
            | 0, _ => exact ⟨_, rfl, by decide⟩
            | 1, _ => exact ⟨_, rfl, by decide⟩
            | 2, _ => exact ⟨_, rfl, by decide⟩
            | 3, _ => exact ⟨_, rfl, by decide⟩
            | 4, _ => exact ⟨_, rfl, by decide⟩
            | 5, _ => exact ⟨_, rfl, by decide⟩
            | 6, _ => exact ⟨_, rfl, by decide⟩
          have HX2 := Lib.hid hx2
          obtain ⟨cb, hcb⟩ : ∃ cb : UInt8, (cb.toNat : Int) = (c : Int) := ⟨UInt8.ofNat c, by rw [UInt8.toNat_ofNat']; omega⟩
          have mm := hx2.cellSome hm id
          go_wp2_with fail
          haveI ne : Nonempty (Wd (fun x => Ext (fun _ => False) wr x)) := ⟨⟨wr, Ext.refl _ _⟩⟩
          have q0 : ∀ x : Wd (fun x => Ext (fun _ => False) wr x), x.w.cell? ⟨bl, i, none⟩ = some (.string s) := fun x => x.ok.cellSome hcell id
          refine wp_region_steps (S := fun x => Ext (fun _ => False) wr x) [([0, 1, 2, 3, 4, 5], [6, 7, 8, 9]), ([10, 11, 12, 13, 14, 15, 16, 17], [18, 19]), ([20], [21]), ([22, 23, 24, 25, 26, 29, 30, 31, 32], [27, 28]), ([33], [34]), ([35], [])] _ (by kernel_rfl) (by kernel_rfl) rfl (by kernel_rfl) (fun _ d _ _ _ h => by cases d <;> exact h) (Ext.refl _ _).drew ?_
          simp only [segOps, List.filterMap_cons, List.filterMap_nil, List.getElem?_cons_zero, List.getElem?_cons_succ]
          refine wpSegs_cons ?_
          change wpQuiet _ _ _ _ (_ :: _ :: _ :: _ :: _ :: _ :: []) _
          repeat (go_big_quiet_step (fail))
          refine wpQuiet_nil ?_
          refine wpLoud_step rfl (fun K hK => ?_)
          go_simp
          have hx3 := ((Ext.refl (fun _ => False) wr).alloc (.cells #[.int .u8 c] 5)).drew
          have hb3 := (Blk.new wr #[.int .u8 c] 5).drew
          have d3 := hb3.cell 0
          simp only [List.getElem?_toArray, List.getElem?_cons_zero] at d3
          refine hK _ _ hx3 ?_
          clear hK
          refine wpLoud_step rfl (fun K hK => ?_)
          go_simp
          rw [conv_one _ cb (c : Int) _ d3 hcb]
          go_simp
          refine hK _ _ hx3 ?_
          clear hK
          obtain ⟨r, hr, hrc⟩ := replace_any s ⟨#[cb]⟩ m (wr.alloc (.cells #[.int .u8 c] 5)).drew hs (by simp [Lib.size_eq]) (hx3.cellSome mm id)
          refine wpLoud_step rfl (fun K hK => ?_)
          go_simp
          refine hrc.mono ?_
          rintro e w3 ⟨rfl, hx4⟩
          have hx4' := hx3.trans' hx4
          refine hK _ _ hx4' ?_
          clear hK hrc hx4 d3 hb3 hx3
          refine wpLoud_step rfl (fun K hK => ?_)
          go_simp
          refine (parses_any r _ hr).mono ?_
          rintro e w4 ⟨rfl, hx5⟩
          have hx5' := hx4'.trans' hx5
          refine hK _ _ hx5' ?_
          clear hK hx5 hx4'
          refine wpLoud_nil ?_
          refine wpSegs_cons ?_
          change wpQuiet _ _ _ _ (_ :: _ :: _ :: _ :: _ :: _ :: _ :: _ :: []) _
          repeat (go_big_quiet_step (fail))
          refine wpQuiet_nil ?_
          refine wpLoud_step rfl (fun K hK => ?_)
          go_simp
          have hx6 := hx5'.alloc (.cells #[.int .u8 c] 5)
          have d6 := (Blk.new w4 #[.int .u8 c] 5).cell 0
          simp only [List.getElem?_toArray, List.getElem?_cons_zero] at d6
          refine hK _ _ hx6 ?_
          clear hK
          refine wpLoud_step rfl (fun K hK => ?_)
          go_simp
          rw [conv_one _ cb (c : Int) _ d6 hcb]
          go_simp
          refine hK _ _ hx6 ?_
          clear hK d6 hx5'
          generalize w4.alloc (.cells #[.int .u8 c] 5) = w6 at *
          refine wpLoud_nil ?_
          refine wpSegs_cons ?_
          have hcs : (⟨#[cb]⟩ : ByteArray).size = 1 := by simp [Lib.size_eq]
          have n1 : ¬ 9223372036854775807 < s.size + 1 := by omega
          have n1' : ¬ 9223372036854775807 < s.size + (⟨#[cb]⟩ : ByteArray).size := by omega
          change wpQuiet _ _ _ _ (_ :: []) _
          repeat (go_big_quiet_step (fail))
          refine wpQuiet_nil ?_
          refine wpLoud_step rfl (fun K hK => ?_)
          go_simp
          have hle1 := app_le s ⟨#[cb]⟩ 100 1 hs (Nat.le_of_eq hcs) (by decide)
          generalize s ++ (⟨#[cb]⟩ : ByteArray) = st1 at hle1 ⊢
          refine (parses_any st1 _ hle1).mono ?_
          rintro e w7 ⟨rfl, hx7⟩
          have hx7' := hx6.trans' hx7
          refine hK _ _ hx7' ?_
          clear hK hx7 hx6
          refine wpLoud_nil ?_
          refine wpSegs_cons ?_
          change wpQuiet _ _ _ _ (_ :: _ :: _ :: _ :: _ :: _ :: _ :: _ :: _ :: []) _
          repeat (go_big_quiet_step (fail))
          refine wpQuiet_nil ?_
          refine wpLoud_step rfl (fun K hK => ?_)
          go_simp
          have hx8 := hx7'.alloc (.cells #[.int .u8 c] 5)
          have d8 := (Blk.new w7 #[.int .u8 c] 5).cell 0
          simp only [List.getElem?_toArray, List.getElem?_cons_zero] at d8
          refine hK _ _ hx8 ?_
          clear hK
          refine wpLoud_step rfl (fun K hK => ?_)
          go_simp
          rw [conv_one _ cb (c : Int) _ d8 hcb]
          go_simp
          refine hK _ _ hx8 ?_
          clear hK d8 hx7'
          generalize w7.alloc (.cells #[.int .u8 c] 5) = w8 at *
          refine wpLoud_nil ?_
          refine wpSegs_cons ?_
          have n2 : ¬ 9223372036854775807 < 1 + s.size := by omega
          have n2' : ¬ 9223372036854775807 < (⟨#[cb]⟩ : ByteArray).size + s.size := by omega
          change wpQuiet _ _ _ _ (_ :: []) _
          repeat (go_big_quiet_step (fail))
          refine wpQuiet_nil ?_
          refine wpLoud_step rfl (fun K hK => ?_)
          go_simp
          have hle2 := app_le ⟨#[cb]⟩ s 1 100 (Nat.le_of_eq hcs) hs (by decide)
          generalize (⟨#[cb]⟩ : ByteArray) ++ s = st2 at hle2 ⊢
          refine (parses_any st2 _ hle2).mono ?_
          rintro e w9 ⟨rfl, hx9⟩
          have hx9' := hx8.trans' hx9
          refine hK _ _ hx9' ?_
          clear hK hx9 hx8
          refine wpLoud_nil ?_
          refine wpSegs_cons ?_
          change wpQuiet _ _ _ _ (_ :: []) _
          repeat (go_big_quiet_step (fail))
          refine wpQuiet_nil ?_
          refine wpLoud_nil ?_
          refine wpSegs_nil ?_
          have hb9 := Lib.hid (HB.out.ext hx9' id)
          have hx09 := HX2.out.trans' hx9'
          clear q0 ne hx9' HB hcell mm
          go_wp2_with fail
          go_roundg (7 - (i + 1))
          case measure => omega
          case rel => exact ⟨i + 1, by simp, by omega, rfl, hx09, hb9⟩
        · obtain rfl : i = 7 := by omega
          go_wp2_with fail
          go_roundg (256 - (c + 1))
          case measure => omega
          case rel => exact ⟨c + 1, by simp, by omega, rfl, hx2⟩
    · obtain rfl : c = 256 := by omega
      go_wp2_with fail
      go_loopg [4] 5 (fun q nv wr => ∃ n : Nat, nv = .int .i64 n ∧ 398 ≤ n ∧ n ≤ 403 ∧ q = 403 - n ∧ Ext (fun _ => False) w wr)
      case atStart => exact ⟨398, rfl, by omega, by omega, rfl, hx⟩
      case round =>
        obtain ⟨n, rfl, hn0, hn1, rfl, hy⟩ := hrel
        by_cases hn : n < 403
        · have n1 : (n : Int) < 403 := by omega
          have n0 : (398 : Int) ≤ (n : Int) := by omega
          have HY := Lib.hid hy
          clear hx hy
          go_wp2_with fail
          refine (repeat_any ⟨#[40]⟩ n _ (by decide) (by omega)).mono ?_
          rintro e w1 ⟨rfl, hx1⟩
          have hz1 := repeat_size ⟨#[40]⟩ n
          generalize (⟨(Lib.repeatL (⟨#[40]⟩ : ByteArray).data.toList n).toArray⟩ : ByteArray) = op at hz1 ⊢
          go_wp2_with fail
          have s40 : (⟨#[40]⟩ : ByteArray).size = 1 := by decide
          have s41 : (⟨#[41]⟩ : ByteArray).size = 1 := by decide
          have s42 : (⟨#[41, 32]⟩ : ByteArray).size = 2 := by decide
          rw [s40] at hz1
          refine (repeat_any ⟨#[41]⟩ n _ (by decide) (by omega)).mono ?_
          rintro e w2 ⟨rfl, hx2⟩
          have hz2 := repeat_size ⟨#[41]⟩ n
          rw [s41] at hz2
          generalize (⟨(Lib.repeatL (⟨#[41]⟩ : ByteArray).data.toList n).toArray⟩ : ByteArray) = p1 at hz2 ⊢
          have k1 : ¬ 9223372036854775807 < op.size + p1.size := by omega
          have k2 : ¬ 9223372036854775807 < op.size + 1 := by omega
          have k3 : (1 : Int) ≤ (n : Int) := by omega
          go_wp2_with fail
          have hr2 := fun w => repeat_any ⟨#[41, 32]⟩ (n - 1) w (by decide) (by omega)
          rw [show ((n - 1 : Nat) : Int) = (n : Int) - 1 by omega] at hr2
          refine (hr2 _).mono ?_
          rintro e w3 ⟨rfl, hx3⟩
          have hz3 := repeat_size ⟨#[41, 32]⟩ (n - 1)
          rw [s42] at hz3
          clear hr2
          generalize (⟨(Lib.repeatL (⟨#[41, 32]⟩ : ByteArray).data.toList (n - 1)).toArray⟩ : ByteArray) = p2 at hz3 ⊢
          have k4 : ¬ 9223372036854775807 < op.size + 1 + p2.size := by omega
          go_wp2_with fail
          have hr3 := fun w => repeat_any ⟨#[41]⟩ (n + 1) w (by decide) (by omega)
          rw [show ((n + 1 : Nat) : Int) = (n : Int) + 1 by omega] at hr3
          refine (hr3 _).mono ?_
          rintro e w4 ⟨rfl, hx4⟩
          have hz4 := repeat_size ⟨#[41]⟩ (n + 1)
          rw [s41] at hz4
          clear hr3
          generalize (⟨(Lib.repeatL (⟨#[41]⟩ : ByteArray).data.toList (n + 1)).toArray⟩ : ByteArray) = p3 at hz4 ⊢
          have k5 : ¬ 9223372036854775807 < op.size + p3.size := by omega
          have k6 : ¬ 9223372036854775807 < 1 + op.size := by omega
          have k7 : ¬ 9223372036854775807 < 1 + op.size + 1 := by omega
          have hy4 := ((HY.out.trans' hx1).trans' hx2).trans' (hx3.trans' hx4)
          clear hx1 hx2 hx3 hx4
          go_wp2_with fail
          have sa : (⟨#[97]⟩ : ByteArray).size = 1 := by decide
          have sA : (⟨#[65]⟩ : ByteArray).size = 1 := by decide
          have b1 : op.size ≤ maxLen := Nat.le_trans (show op.size ≤ 403 by omega) (by decide)
          have b2 : (op ++ p1).size ≤ maxLen := app_le op p1 403 403 (by omega) (by omega) (by decide)
          have b3 : (op ++ (⟨#[97]⟩ : ByteArray) ++ p2).size ≤ maxLen := app_le _ p2 404 806 (by rw [app_size]; omega) (by omega) (by decide)
          have b4 : (op ++ p3).size ≤ maxLen := app_le op p3 403 404 (by omega) (by omega) (by decide)
          have b5 : ((⟨#[97]⟩ : ByteArray) ++ op ++ (⟨#[65]⟩ : ByteArray)).size ≤ maxLen := app_le _ _ 404 1 (by rw [app_size]; omega) (by omega) (by decide)
          clear k1 k2 k4 k5 k6 k7 hz1 hz2 hz3 hz4 s40 s41 s42 sa sA
          generalize op ++ p1 = a2 at b2 ⊢
          generalize op ++ (⟨#[97]⟩ : ByteArray) ++ p2 = a3 at b3 ⊢
          generalize op ++ p3 = a4 at b4 ⊢
          generalize (⟨#[97]⟩ : ByteArray) ++ op ++ (⟨#[65]⟩ : ByteArray) = a5 at b5 ⊢
          have hx5 := hy4.alloc (.cells #[.string op, .string a2, .string a3, .string a4, .string a5] 9)
          have hblk := Blk.new w4 #[.string op, .string a2, .string a3, .string a4, .string a5] 9
          generalize w4.alloc (.cells #[.string op, .string a2, .string a3, .string a4, .string a5] 9) = w5 at *
          generalize w4.heap.size = bl at *
          clear hy4
          go_loopg [7] 5 (fun q iv wi => ∃ i : Nat, iv = .int .i64 i ∧ i ≤ 5 ∧ q = 5 - i ∧ Ext (fun _ => False) w wi ∧ Hid (Blk wi bl #[.string op, .string a2, .string a3, .string a4, .string a5] 9))
          case atStart => exact ⟨0, rfl, by omega, rfl, hx5, Lib.hid hblk⟩
          case round =>
            obtain ⟨i, rfl, hi, rfl, hx2, HB⟩ := hrel
            by_cases hi5 : i < 5
            · have i0 : (0 : Int) ≤ (i : Int) := by omega
              have i1 : (i : Int) < 5 := by omega
              obtain ⟨s, hcell, hs⟩ : ∃ s : ByteArray, wr.cell? ⟨bl, i, none⟩ = some (.string s) ∧ s.size ≤ maxLen := by
                have hb := HB.out
                rw [hb.cell i]
                match i, hi5 with
                | 0, _ => exact ⟨_, rfl, b1⟩
                | 1, _ => exact ⟨_, rfl, b2⟩
                | 2, _ => exact ⟨_, rfl, b3⟩
                | 3, _ => exact ⟨_, rfl, b4⟩
                | 4, _ => exact ⟨_, rfl, b5⟩
              go_wp2_with fail
              refine (parses_any s _ hs).mono ?_
              rintro e w6 ⟨rfl, hx6⟩
              have hb6 := Lib.hid (HB.out.ext hx6 id)
              have hx26 := hx2.trans' hx6
              clear HB hcell hx6
              go_wp2_with fail
              go_roundg (5 - (i + 1))
              case measure => omega
              case rel => exact ⟨i + 1, by simp, by omega, rfl, hx26, hb6⟩
            · obtain rfl : i = 5 := by omega
              go_wp2_with fail
              go_roundg (403 - (n + 1))
              case measure => omega
              case rel => exact ⟨n + 1, by simp, by omega, by omega, rfl, hx2⟩
        · obtain rfl : n = 403 := by omega
          go_wp2_with fail
          obtain ⟨N, hN⟩ : ∃ N : Nat, N = 262144 := ⟨_, rfl⟩
          have hr := repeat_any ⟨#[97]⟩ N wr (by decide) (Nat.le_of_eq hN)
          rw [show ((N : Nat) : Int) = 262144 by omega] at hr
          refine hr.mono ?_
          rintro e w1 ⟨rfl, hx1⟩
          have hz1 := repeat_size ⟨#[97]⟩ N
          rw [show (⟨#[97]⟩ : ByteArray).size = 1 by decide, Nat.one_mul] at hz1
          obtain ⟨g1, hp1, hl1, hw1⟩ := long_law ⟨(Lib.repeatL (⟨#[97]⟩ : ByteArray).data.toList N).toArray⟩ N (by simp) (by omega) (by omega)
          clear hr
          generalize (⟨(Lib.repeatL (⟨#[97]⟩ : ByteArray).data.toList N).toArray⟩ : ByteArray) = L at *
          have hy1 := hy.trans' hx1
          clear hx1 hx
          have P1 := Lib.hid (fun w => parse_any L w (by rw [hz1, hN]; decide))
          rw [hp1] at P1
          have hA : (L ++ (⟨#[65]⟩ : ByteArray)).size = N + 1 := by rw [app_size, hz1]; rfl
          have hpA : parseS (L ++ (⟨#[65]⟩ : ByteArray)) = (.nil, 0, 3) := by unfold parseS; rw [if_pos (by omega)]
          have P2 := Lib.hid (fun w => parse_any (L ++ (⟨#[65]⟩ : ByteArray)) w (by rw [hA, hN]; decide))
          rw [hpA] at P2
          have k1 : ¬ 9223372036854775807 < L.size + 1 := by omega
          clear hp1 hpA
          generalize hLA : L ++ (⟨#[65]⟩ : ByteArray) = LA at *
          have HLA := Lib.hid hLA
          clear hLA
          go_wp2_with fail
          refine (P1.out _).mono ?_
          rintro e w2 ⟨hx2, va, rfl, hsa⟩
          obtain ⟨a1, cap1, hva, _, _⟩ := hsa.shape
          rw [hl1] at hva
          subst hva
          have hy2 := hy1.trans' hx2
          clear hx2 hy1
          go_wp2_with fail
          rw [HLA.out]
          refine (P2.out _).mono ?_
          rintro e w3 ⟨hx3, vb, rfl, hsb⟩
          have hy3 := hy2.trans' hx3
          replace hsa := hsa.ext hx3 (fun _ _ h => h)
          clear hx3 hy2 hsb P1 P2
          obtain ⟨M, hM⟩ : ∃ M : Nat, M = 400 := ⟨_, rfl⟩
          have r1 := fun w => repeat_any ⟨#[40]⟩ M w (by decide) (by omega)
          have r2 := fun w => repeat_any ⟨#[41]⟩ M w (by decide) (by omega)
          rw [show ((M : Nat) : Int) = 400 by omega] at r1 r2
          have HR1 := Lib.hid r1
          have HR2 := Lib.hid r2
          have z1 := repeat_size ⟨#[40]⟩ M
          have z2 := repeat_size ⟨#[41]⟩ M
          rw [show (⟨#[40]⟩ : ByteArray).size = 1 by decide, Nat.one_mul] at z1
          rw [show (⟨#[41]⟩ : ByteArray).size = 1 by decide, Nat.one_mul] at z2
          have hdl := deep_law ((⟨(Lib.repeatL (⟨#[40]⟩ : ByteArray).data.toList M).toArray⟩ : ByteArray) ++ (⟨(Lib.repeatL (⟨#[41]⟩ : ByteArray).data.toList M).toArray⟩ : ByteArray)) M (by rw [Joins.data_append]) (by omega)
          clear r1 r2
          generalize (⟨(Lib.repeatL (⟨#[40]⟩ : ByteArray).data.toList M).toArray⟩ : ByteArray) = o1 at *
          generalize (⟨(Lib.repeatL (⟨#[41]⟩ : ByteArray).data.toList M).toArray⟩ : ByteArray) = o2 at *
          have HM := Lib.hid hM
          have HDL := Lib.hid hdl
          have k2 : ¬ 9223372036854775807 < o1.size + o2.size := by omega
          have hle := app_le o1 o2 400 400 (by omega) (by omega) (by decide)
          clear hM hdl z1 z2
          go_wp2_with fail
          refine (HR1.out _).mono ?_
          rintro e w4 ⟨rfl, hx4⟩
          go_wp2_with fail
          refine (HR2.out _).mono ?_
          rintro e w5 ⟨rfl, hx5⟩
          have hy5 := (hy3.trans' hx4).trans' hx5
          replace hsa := (hsa.ext hx4 (fun _ _ h => h)).ext hx5 (fun _ _ h => h)
          clear hx4 hx5 hy3 HR1 HR2
          have P3 := Lib.hid (fun w => parse_any (o1 ++ o2) w hle)
          obtain ⟨g2, hp2, hd2, hs2⟩ := HDL.out
          rw [hp2] at P3
          clear hp2 hle
          go_wp2_with fail
          refine (P3.out _).mono ?_
          rintro e w6 ⟨hx6, vc, rfl, hsc⟩
          have hy6 := hy5.trans' hx6
          replace hsa := hsa.ext hx6 (fun _ _ h => h)
          clear hx6 hy5 P3
          have P4 := Lib.hid (deep_any (f := g2) hsc (Nat.lt_of_le_of_lt hs2 (by decide)))
          rw [hd2, HM.out] at P4
          go_wp2_with fail
          refine P4.out.mono ?_
          rintro e w7 ⟨rfl, hx7⟩
          have hy7 := hy6.trans' hx7
          replace hsa := hsa.ext hx7 (fun _ _ h => h)
          clear hx7 hy6 P4 hsc
          go_wp2_with fail
          have tx0 : (⟨(F.nil.tx).toArray⟩ : ByteArray) = ByteArray.empty := rfl
          have PT := Lib.hid (fun w => text_any (Sl.nil (fun _ => False) w) (by simp [F.tx, F.txB]))
          have PD := Lib.hid (fun w => deep_any (Sl.nil (fun _ => False) w) (by simp [F.size]))
          rw [tx0] at PT
          clear tx0
          refine (PT.out _).mono ?_
          rintro e w8 ⟨rfl, hx8⟩
          have hy8 := hy7.trans' hx8
          replace hsa := hsa.ext hx8 (fun _ _ h => h)
          clear hx8 hy7
          go_wp2_with fail
          refine (PD.out _).mono ?_
          rintro e w9 ⟨rfl, hx9⟩
          have hy9 := hy8.trans' hx9
          replace hsa := hsa.ext hx9 (fun _ _ h => h)
          clear hx9 hy8
          go_wp2_with fail
          have hxa := (Ext.refl (fun _ => False) w9).alloc (.cells #[.string ⟨#[120]⟩, .slice none 0 0, .bool true, .int .i64 0, .string ⟨#[]⟩, .slice a1 1 cap1, .bool false, .int .i64 0] 35)
          have hba := Blk.new w9 #[.string ⟨#[120]⟩, .slice none 0 0, .bool true, .int .i64 0, .string ⟨#[]⟩, .slice a1 1 cap1, .bool false, .int .i64 0] 35
          have hsa2 := (hsa.ext hxa (fun _ _ h => h)).mono (D' := fun b => b < (w9.alloc (.cells #[.string ⟨#[120]⟩, .slice none 0 0, .bool true, .int .i64 0, .string ⟨#[]⟩, .slice a1 1 cap1, .bool false, .int .i64 0] 35)).heap.size) (fun _ _ h => h)
          have hwt : (F.cons ⟨#[120]⟩ true 0 .nil (.cons ⟨#[]⟩ false 0 g1 .nil)).wt ≤ 1048576 := by
            have z1 : (⟨#[120]⟩ : ByteArray).size = 1 := rfl
            have z0 : (⟨#[]⟩ : ByteArray).size = 0 := rfl
            simp only [F.wt, z1, z0, hw1]
            omega
          have hyb := hy9.trans' hxa
          clear hsa hy9 hxa
          generalize w9.alloc (.cells #[.string ⟨#[120]⟩, .slice none 0 0, .bool true, .int .i64 0, .string ⟨#[]⟩, .slice a1 1 cap1, .bool false, .int .i64 0] 35) = w10 at *
          generalize w9.heap.size = b9 at *
          have hsl : Sl (· < w10.heap.size) w10 (.slice (some ⟨b9, 0, none⟩) 2 2) (F.cons ⟨#[120]⟩ true 0 .nil (.cons ⟨#[]⟩ false 0 g1 .nil)) := by
            obtain ⟨ys1, he1, hh1⟩ := hsa2
            refine ⟨[.string ⟨#[120]⟩, .slice none 0 0, .bool true, .int .i64 0, .string ⟨#[]⟩, .slice a1 1 cap1, .bool false, .int .i64 0], ⟨.slice none 0 0, [], _, rfl, by decide, rfl, ⟨none, 0, rfl, Nat.le_refl _, Nat.zero_le _, fun _ => rfl, .inl rfl⟩, ⟨.slice a1 1 cap1, ys1, [], rfl, by decide, he1, hh1, rfl⟩⟩, ⟨some ⟨b9, 0, none⟩, 2, rfl, Nat.le_refl _, by decide, (fun h => by cases h), .inr ⟨b9, 0, rfl, hba.lt, fun i x hi => ?_⟩⟩⟩
            rw [Nat.zero_add, hba.cell i]
            simpa using hi
          clear hba hsa2 hw1 hN hz1
          refine (lexShows_walk _ _ _ hsl hwt).mono ?_
          rintro e w11 ⟨rfl, hx11⟩
          have hy11 := hyb.trans' hx11
          clear hx11 hyb hsl hwt
          go_wp2_with fail
          refine (awake_any _).mono ?_
          rintro e w12 ⟨rfl, hx12⟩
          have hy12 := hy11.trans' hx12
          clear hx12 hy11
          go_wp2_with fail
          go_ret
          exact ⟨rfl, hy12⟩

end Go.Proofs.YthiaikbdghmnbaaDoor
