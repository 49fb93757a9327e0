/- Texts put together by wip/shake.py: LexW2, LexW3, LexW4, PProgOne: the walks and the laws that the claim's last theorem rests on. -/
import Derived.Test.YtmcinpeplkkpfaaGreatDoorZ20
import Derived.Test.YtmcinpeplkkpfaaGreatDoorZ8
import Derived.Deep.RegionHeld3
import Derived.Test.YtmcinpeplkkpfaaGreatDoorZ7
import Derived.BigRegion
namespace Go.Proofs.YtmcinpeplkkpfaaGreatDoor
open Go.RowKit
abbrev TR := Except (Nat × Int) (ByteArray × Bool × F × Nat)

def treeP (s : ByteArray) (i op : Nat) (c : UInt8) : TR :=
  if c ≠ 40 then
    if adv isSign s i = i then .error (i, 20) else .ok (s.extract i (adv isSign s i), false, .nil, adv isSign s i)
  else if ¬ op < 400 then .error (i, 3)
  else match rowP s (i + 1) (op + 1) with
    | .error x => .error x
    | .ok (f, e) => if ¬ e < s.size then .error (e, 20) else .ok (ByteArray.empty, true, f, e + 1)

theorem treeP_end {s : ByteArray} {i op : Nat} {c : UInt8} {wd : ByteArray} {r : Bool} {f : F} {e : Nat} (hi : i < s.size) (h : treeP s i op c = .ok (wd, r, f, e)) : i < e ∧ e ≤ s.size ∧ wd.size ≤ s.size := by
  unfold treeP at h
  split at h
  · split at h
    · cases h
    · rename_i hne
      have h3 := adv_ge isSign s i
      have h4 := adv_le isSign s i (by omega)
      simp at h
      obtain ⟨rfl, _, _, rfl⟩ := h
      refine ⟨by omega, h4, ?_⟩
      simp; omega
  · split at h
    · cases h
    · split at h
      · cases h
      · rename_i f' e' hr
        have := rowP_end (by omega) hr
        split at h
        · cases h
        · simp at h
          obtain ⟨rfl, _, _, rfl⟩ := h
          exact ⟨by omega, by omega, by simp⟩

theorem rowP_tree (s : ByteArray) (at_ op : Nat) (hat : at_ ≤ s.size) : rowP s at_ op =
    if h : adv isBlank s at_ < s.size then
      if s[adv isBlank s at_] = 41 then .ok (.nil, adv isBlank s at_)
      else match treeP s (adv isBlank s at_) op s[adv isBlank s at_] with
        | .error x => .error x
        | .ok (wd, r, f, e) => R.pre (.cons wd r (adv isBlank s at_) f .nil) (rowP s e op)
    else .ok (.nil, adv isBlank s at_) := by
  rw [rowP_eq s at_ op hat]
  split
  · split
    · rfl
    · unfold treeP
      split
      · split <;> rfl
      · split
        · rfl
        · cases rowP s (adv isBlank s at_ + 1) (op + 1) with
          | error x => rfl
          | ok x =>
            obtain ⟨f, e⟩ := x
            simp only
            split <;> rfl
  · rfl

def TreePost (w : World) (br : Nat) (s : ByteArray) (op i : Nat) (r : TR) (e : Ending) (w' : World) : Prop :=
  Ext (· = br) w w' ∧ match r with
  | .ok (wd, rw, f, e') => ∃ a n cap, e = .returned (.agg #[.string wd, .slice a n cap, .bool rw, .int .i64 i]) ∧ Sl (fun b => w.heap.size ≤ b) w' (.slice a n cap) f ∧ RD w' br s e' op
  | .error (p, er) => e = .panicked (faultChain p er)

def RowPost (w : World) (br : Nat) (s : ByteArray) (op : Nat) (r : R) (e : Ending) (w' : World) : Prop :=
  Ext (· = br) w w' ∧ match r with
  | .ok (f, e') => ∃ v, e = .returned v ∧ Sl (fun b => w.heap.size ≤ b) w' v f ∧ RD w' br s e' op
  | .error (p, er) => e = .panicked (faultChain p er)

def TreeC (s : ByteArray) (n : Nat) : Prop := ∀ (i op br : Nat) (w : World) (hi : i < s.size), s.size - i < n → op ≤ 400 → RD w br s i op →
  Calls Tryz.prog 90 #[.pointer (some ⟨br, 0, none⟩)] w (TreePost w br s op i (treeP s i op s[i]))

def RowC (s : ByteArray) (n : Nat) : Prop := ∀ (i op br : Nat) (w : World), i ≤ s.size → s.size - i < n → op ≤ 400 → RD w br s i op →
  Calls Tryz.prog 34 #[.pointer (some ⟨br, 0, none⟩)] w (RowPost w br s op (rowP s i op))

set_option maxHeartbeats 1000000 in
theorem tree_word (s : ByteArray) (hs : s.size ≤ 262144) (i op br : Nat) (w : World) (hi : i < s.size) (h : RD w br s i op) (hc : s[i] ≠ 40) :
    Calls Tryz.prog 90 #[.pointer (some ⟨br, 0, none⟩)] w (TreePost w br s op i (treeP s i op s[i])) := by
  have c0 := h.c0
  have c1 := h.c1
  have hlt := Blk.lt h
  have hcn : ((s[i].toNat : Int) == 40) = false := by
    simp only [beq_eq_false_iff_ne]
    intro e; exact hc (UInt8.toNat_inj.1 (by simpa using (by omega : s[i].toNat = 40)))
  have hcm : ((s[i].toNat : Int) != 40) = true := by simp [bne, hcn]
  have e1 : treeP s i op s[i] = if adv isSign s i = i then .error (i, 20) else .ok (s.extract i (adv isSign s i), false, .nil, adv isSign s i) := by
    unfold treeP; rw [if_pos hc]
  rw [e1]; clear e1
  have hT : Blk ((w.alloc (.cells #[.string ⟨#[]⟩, .slice none 0 0, .bool false, .int .i64 0] 55)).alloc (.cells #[.string ⟨#[]⟩, .slice none 0 0, .bool false, .int .i64 i] 55)) (w.heap.size + 1) #[.string ⟨#[]⟩, .slice none 0 0, .bool false, .int .i64 i] 55 := by
    have := Blk.new (w.alloc (.cells #[.string ⟨#[]⟩, .slice none 0 0, .bool false, .int .i64 0] 55)) #[.string ⟨#[]⟩, .slice none 0 0, .bool false, .int .i64 i] 55
    simpa using this
  by_cases hj : adv isSign s i = i
  · rw [if_pos hj]
    have HJ := Lib.hid hj
    clear hj
    go_enter Tryz.func90, Tryz.ntmps90
    go_wp2_with fail
    go_quiet (fail)
    go_wp2_with fail
    refine (while_sign br s i op _ (((Blk.alloc (Blk.alloc h _) _)).drewN _) (by omega) hs).mono ?_
    rintro e w1 ⟨rfl, hrd1, hext1⟩
    have hT1 := Blk.ext (hT.drewN _) hext1 (by omega)
    rw [HJ.out] at hrd1 ⊢
    have tc0 := hT1.cell 0
    have tf0 := hT1.frozen 0
    simp at tc0
    clear c0 c1
    have hne : (s.extract i i) = ⟨#[]⟩ := by simp; rfl
    rw [hne]
    go_wp2_with fail
    have hT2 := hT1.set 0 (.string ⟨#[]⟩)
    have hrd2 : RD (w1.setCell ⟨w.heap.size + 1, 0, none⟩ (.string ⟨#[]⟩)) br s i op := Blk.setOther hrd1 _ (by simp; omega) _
    have hext2 := (((((Ext.refl (· = br) w).alloc _).alloc _).drewN _).trans' hext1).setCell (p := ⟨w.heap.size + 1, 0, none⟩) (by intro h; simp at h; omega) (.string ⟨#[]⟩)
    generalize w1.setCell ⟨w.heap.size + 1, 0, none⟩ (.string ⟨#[]⟩) = w2 at hT2 hrd2 hext2 ⊢
    clear tc0 tf0
    have tc0 := hT2.cell 0
    simp at tc0
    refine wp_region_quiet_tail 6 (by kernel_rfl) (by kernel_rfl) ?_
    simp only [List.take_succ_cons, List.take_zero, List.drop_succ_cons, List.drop_zero]
    repeat (go_big_quiet_step (fail))
    refine wpQuiet_nil ?_
    rintro w' ⟨nq, rfl⟩
    go_wp2_with (go_at_call 35; refine (must_no br s i op 20 _ (Blk.drewN hrd2 _)).mono ?_; rintro e w3 ⟨rfl, rfl⟩)
    exact ⟨rfl, hext2.drewN _, rfl⟩
  · rw [if_neg hj]
    have hwd : ∃ wd, wd = s.extract i (adv isSign s i) := ⟨_, rfl⟩
    obtain ⟨wd, hwd⟩ := hwd
    rw [← hwd]
    have hsz : 0 < wd.size := by
      have h3 := adv_ge isSign s i
      have h4 := adv_le isSign s i (by omega)
      rw [hwd]; simp; omega
    have hne : wd.toList.isEmpty = false := by
      rw [List.isEmpty_eq_false_iff]; intro h0
      have : wd.data.toList.length = 0 := by rw [← ByteArray.toList_eq, h0]; rfl
      rw [← Lib.size_eq] at this; omega
    have HW := Lib.hid hwd
    clear hwd
    go_enter Tryz.func90, Tryz.ntmps90
    go_wp2_with fail
    go_quiet (fail)
    go_wp2_with fail
    refine (while_sign br s i op _ (((Blk.alloc (Blk.alloc h _) _)).drewN _) (by omega) hs).mono ?_
    rintro e w1 ⟨rfl, hrd1, hext1⟩
    have hT1 := Blk.ext (hT.drewN _) hext1 (by omega)
    have hO1 := Blk.ext (((Blk.new w #[.string ⟨#[]⟩, .slice none 0 0, .bool false, .int .i64 0] 55).alloc (.cells #[.string ⟨#[]⟩, .slice none 0 0, .bool false, .int .i64 i] 55)).drewN nq) hext1 (by omega)
    rw [← HW.out]
    have tc0 := hT1.cell 0
    have tf0 := hT1.frozen 0
    simp at tc0
    clear c0 c1
    go_wp2_with fail
    have hT2 := hT1.set 0 (.string wd)
    have hrd2 := Blk.setOther hrd1 ⟨w.heap.size + 1, 0, none⟩ (by simp; omega) (.string wd)
    have hO2 := Blk.setOther hO1 ⟨w.heap.size + 1, 0, none⟩ (by simp) (.string wd)
    have hext2 := (((((Ext.refl (· = br) w).alloc _).alloc _).drewN _).trans' hext1).setCell (p := ⟨w.heap.size + 1, 0, none⟩) (by intro h; simp at h; omega) (.string wd)
    generalize w1.setCell ⟨w.heap.size + 1, 0, none⟩ (.string wd) = w2 at hT2 hrd2 hext2 hO2 ⊢
    clear tc0 tf0
    have tc0 : w2.cell? ⟨w.heap.size + 1, 0, none⟩ = some (.string wd) := hT2.cell 0
    have tc1 : w2.cell? ⟨w.heap.size + 1, 1, none⟩ = some (.slice none 0 0) := hT2.cell 1
    have tc2 : w2.cell? ⟨w.heap.size + 1, 2, none⟩ = some (.bool false) := hT2.cell 2
    have tc3 : w2.cell? ⟨w.heap.size + 1, 3, none⟩ = some (.int .i64 i) := hT2.cell 3
    have oc0 : w2.cell? ⟨w.heap.size, 0, none⟩ = some (.string ⟨#[]⟩) := hO2.cell 0
    have oc1 : w2.cell? ⟨w.heap.size, 1, none⟩ = some (.slice none 0 0) := hO2.cell 1
    have oc2 : w2.cell? ⟨w.heap.size, 2, none⟩ = some (.bool false) := hO2.cell 2
    have oc3 : w2.cell? ⟨w.heap.size, 3, none⟩ = some (.int .i64 0) := hO2.cell 3
    have of0 := hO2.frozen 0
    have of1 := hO2.frozen 1
    have of2 := hO2.frozen 2
    have of3 := hO2.frozen 3
    refine wp_region_quiet_tail 6 (by kernel_rfl) (by kernel_rfl) ?_
    simp only [List.take_succ_cons, List.take_zero, List.drop_succ_cons, List.drop_zero]
    repeat (go_big_quiet_step (fail))
    refine wpQuiet_nil ?_
    rintro w' ⟨nq, rfl⟩
    go_wp2_with (go_at_call 35; refine (must_yes br 20 _).mono ?_; rintro e w3 ⟨rfl, rfl⟩)
    refine bodyPost_ret (v := .agg #[.string wd, .slice none 0 0, .bool false, .int .i64 i]) (by simp [results, Tryz.results90, go_sem, *]) rfl ⟨?_, none, 0, 0, rfl, Sl.nil _ _, ?_⟩
    · exact ((((hext2.drewN _).setCell (by simp) _).setCell (by simp) _).setCell (by simp) _).setCell (by simp) _
    · exact Blk.setOther (Blk.setOther (Blk.setOther (Blk.setOther (Blk.drewN hrd2 _) _ (by simp; omega) _) _ (by simp; omega) _) _ (by simp; omega) _) _ (by simp; omega) _

set_option maxRecDepth 100000 in
set_option maxHeartbeats 2000000 in
theorem tree_row (s : ByteArray) (hs : s.size ≤ 262144) (n : Nat) (HR : RowC s n) (i op br : Nat) (w : World) (hi : i < s.size) (hn : s.size - i < n + 1) (hop : op ≤ 400) (h : RD w br s i op) (hc : s[i] = 40) :
    Calls Tryz.prog 90 #[.pointer (some ⟨br, 0, none⟩)] w (TreePost w br s op i (treeP s i op s[i])) := by
  have c0 := h.c0
  have c1 := h.c1
  have c2 := h.c2
  have hlt := Blk.lt h
  have hcn : ((s[i].toNat : Int) == 40) = true := by rw [hc]; rfl
  have hcm : ((s[i].toNat : Int) != 40) = false := by simp [bne, hcn]
  have e1 : treeP s i op s[i] = if ¬ op < 400 then .error (i, 3) else match rowP s (i + 1) (op + 1) with
      | .error x => .error x
      | .ok (f, e) => if ¬ e < s.size then .error (e, 20) else .ok (ByteArray.empty, true, f, e + 1) := by
    unfold treeP; rw [if_neg (by rw [hc]; decide)]
  generalize treeP s i op s[i] = tr at e1
  have HTR := Lib.hid e1
  clear e1
  have hT : Blk ((w.alloc (.cells #[.string ⟨#[]⟩, .slice none 0 0, .bool false, .int .i64 0] 55)).alloc (.cells #[.string ⟨#[]⟩, .slice none 0 0, .bool false, .int .i64 i] 55)) (w.heap.size + 1) #[.string ⟨#[]⟩, .slice none 0 0, .bool false, .int .i64 i] 55 := by
    have := Blk.new (w.alloc (.cells #[.string ⟨#[]⟩, .slice none 0 0, .bool false, .int .i64 0] 55)) #[.string ⟨#[]⟩, .slice none 0 0, .bool false, .int .i64 i] 55
    simpa using this
  have hO := (Blk.new w #[.string ⟨#[]⟩, .slice none 0 0, .bool false, .int .i64 0] 55).alloc (.cells #[.string ⟨#[]⟩, .slice none 0 0, .bool false, .int .i64 i] 55)
  have hR := Blk.alloc (Blk.alloc h (.cells #[.string ⟨#[]⟩, .slice none 0 0, .bool false, .int .i64 0] 55)) (.cells #[.string ⟨#[]⟩, .slice none 0 0, .bool false, .int .i64 i] 55)
  have hX := ((Ext.refl (· = br) w).alloc (.cells #[.string ⟨#[]⟩, .slice none 0 0, .bool false, .int .i64 0] 55)).alloc (.cells #[.string ⟨#[]⟩, .slice none 0 0, .bool false, .int .i64 i] 55)
  have hc0 : (40 : UInt8).toNat = 40 := rfl
  by_cases hlo : op < 400
  · have hbo : decide ((op : Int) < 400) = true := by simp; omega
    go_enter Tryz.func90, Tryz.ntmps90
    go_wp2_with fail
    go_quiet (fail)
    go_wp2_with fail
    refine wp_region_quiet_tail 8 (by kernel_rfl) (by kernel_rfl) ?_
    simp only [List.take_succ_cons, List.take_zero, List.drop_succ_cons, List.drop_zero]
    repeat (go_big_quiet_step (fail))
    refine wpQuiet_nil ?_
    rintro w' ⟨nq, rfl⟩
    go_wp2_with fail
    refine (must_yes br 3 _).mono ?_
    rintro e w3 ⟨rfl, hw3⟩
    have hR3 : RD w3 br s i op := by rw [← hw3]; exact hR
    have hT3 : Blk w3 (w.heap.size + 1) #[.string ⟨#[]⟩, .slice none 0 0, .bool false, .int .i64 i] 55 := by rw [← hw3]; exact hT
    have hO3 : Blk w3 w.heap.size #[.string ⟨#[]⟩, .slice none 0 0, .bool false, .int .i64 0] 55 := by rw [← hw3]; exact hO
    have hX3 : Ext (· = br) w w3 := by rw [← hw3]; first | exact hX.drewN _ | exact (hX.drewN _).drewN _
    clear hw3 hR hT hO hX c0 c1 c2
    have c1 := hR3.c1
    have c2 := hR3.c2
    have f1 := Blk.frozen hR3 1
    have f2 := Blk.frozen hR3 2
    go_wp2_with fail
    have hR4 := RD.at (RD.open hR3 ((op : Int) + 1) (op + 1) (by simp)) ((i : Int) + 1) (i + 1) (by simp)
    have hT4 := Blk.setOther (Blk.setOther hT3 ⟨br, 2, none⟩ (by simp; omega) (.int .i64 ((op : Int) + 1))) ⟨br, 1, none⟩ (by simp; omega) (.int .i64 ((i : Int) + 1))
    have hO4 := Blk.setOther (Blk.setOther hO3 ⟨br, 2, none⟩ (by simp; omega) (.int .i64 ((op : Int) + 1))) ⟨br, 1, none⟩ (by simp; omega) (.int .i64 ((i : Int) + 1))
    have hX4 := (hX3.setCell (p := ⟨br, 2, none⟩) (fun _ => rfl) (.int .i64 ((op : Int) + 1))).setCell (p := ⟨br, 1, none⟩) (fun _ => rfl) (.int .i64 ((i : Int) + 1))
    generalize (w3.setCell ⟨br, 2, none⟩ (.int .i64 ((op : Int) + 1))).setCell ⟨br, 1, none⟩ (.int .i64 ((i : Int) + 1)) = w4 at hR4 hT4 hO4 hX4 ⊢
    clear c1 c2 f1 f2 hR3 hT3 hO3 hX3
    cases hr : rowP s (i + 1) (op + 1) with
    | error x =>
      obtain ⟨p, er⟩ := x
      have HC := HR (i + 1) (op + 1) br w4 (by omega) (by omega) (by omega) hR4
      rw [hr] at HC
      refine HC.mono ?_
      rintro e w5 ⟨hx5, rfl⟩
      have et : tr = .error (p, er) := by rw [HTR.out, if_neg (by omega)]; simp only [hr]
      rw [et]
      exact ⟨rfl, hX4.trans' hx5, rfl⟩
    | ok x =>
      obtain ⟨f, e'⟩ := x
      have hend := rowP_end (by omega) hr
      have HC := HR (i + 1) (op + 1) br w4 (by omega) (by omega) (by omega) hR4
      rw [hr] at HC
      refine HC.mono ?_
      rintro e w5 ⟨hx5, v, he, hsl, hR5⟩
      clear HC HR
      have HE := Lib.hid hr
      clear hr
      obtain ⟨a, cap, rfl, hcp1, hcp2⟩ := hsl.shape
      subst he
      have hT5 := hT4.ext hx5 (by omega)
      have hO5 := hO4.ext hx5 (by omega)
      have hX5 := hX4.trans' hx5
      have hlt4 := hT4.lt
      clear hx5 hX4 hT4 hO4 hR4
      have tc1 : w5.cell? ⟨w.heap.size + 1, 1, none⟩ = some (.slice none 0 0) := hT5.cell 1
      have tc2 : w5.cell? ⟨w.heap.size + 1, 2, none⟩ = some (.bool false) := hT5.cell 2
      have tf1 := hT5.frozen 1
      have tf2 := hT5.frozen 2
      go_wp2_with fail
      have hT6 := (hT5.set 2 (.bool true)).set 1 (.slice a f.len cap)
      have hR6 := Blk.setOther (Blk.setOther hR5 ⟨w.heap.size + 1, 2, none⟩ (by simp; omega) (.bool true)) ⟨w.heap.size + 1, 1, none⟩ (by simp; omega) (.slice a f.len cap)
      have hO6 := Blk.setOther (Blk.setOther hO5 ⟨w.heap.size + 1, 2, none⟩ (by simp) (.bool true)) ⟨w.heap.size + 1, 1, none⟩ (by simp) (.slice a f.len cap)
      have hX6 := (hX5.setCell (p := ⟨w.heap.size + 1, 2, none⟩) (by intro h; simp at h; omega) (.bool true)).setCell (p := ⟨w.heap.size + 1, 1, none⟩) (by intro h; simp at h; omega) (.slice a f.len cap)
      have hS6 : Sl (fun b => w.heap.size ≤ b ∧ b ≠ w.heap.size) ((w5.setCell ⟨w.heap.size + 1, 2, none⟩ (.bool true)).setCell ⟨w.heap.size + 1, 1, none⟩ (.slice a f.len cap)) (.slice a f.len cap) f :=
        hsl.move (fun b hb _ => by rw [Below.heap_setCell _ _ _ _ (by simp; omega), Below.heap_setCell _ _ _ _ (by simp; omega)]) (fun b hb _ => ⟨by omega, by omega⟩)
      generalize (w5.setCell ⟨w.heap.size + 1, 2, none⟩ (.bool true)).setCell ⟨w.heap.size + 1, 1, none⟩ (.slice a f.len cap) = w6 at hT6 hR6 hO6 hX6 hS6 ⊢
      clear tc1 tc2 tf1 tf2 hT5 hO5 hR5 hX5 hsl
      by_cases hlt6 : e' < s.size
      · refine wp_region_quiet_tail 7 (by kernel_rfl) (by kernel_rfl) ?_
        simp only [List.take_succ_cons, List.take_zero, List.drop_succ_cons, List.drop_zero]
        repeat (go_big_quiet_step ((go_at_call 36; refine Calls.quiet_of (more_yes br s e' (op + 1) _ (by exact hR6) hlt6))))
        refine wpQuiet_nil ?_
        rintro w' ⟨nq, rfl⟩
        go_wp2_with fail
        refine (must_yes br 20 _).mono ?_
        rintro e w7 ⟨rfl, hw7⟩
        have hR7 : RD w7 br s e' (op + 1) := by rw [← hw7]; exact hR6
        have hT7 : Blk w7 (w.heap.size + 1) #[.string ⟨#[]⟩, .slice a f.len cap, .bool true, .int .i64 i] 55 := by rw [← hw7]; exact hT6
        have hO7 : Blk w7 w.heap.size #[.string ⟨#[]⟩, .slice none 0 0, .bool false, .int .i64 0] 55 := by rw [← hw7]; exact hO6
        have hX7 : Ext (· = br) w w7 := by rw [← hw7]; exact hX6.drewN _
        have hS7 : Sl (fun b => w.heap.size ≤ b ∧ b ≠ w.heap.size) w7 (.slice a f.len cap) f := by rw [← hw7]; exact hS6.ext (ext_drewN w6 nq (fun _ => False)) (fun _ _ h => h)
        clear hw7 hR6 hT6 hO6 hX6 hS6
        have c1 := hR7.c1
        have c2 := hR7.c2
        have f1 := Blk.frozen hR7 1
        have f2 := Blk.frozen hR7 2
        have tc0 : w7.cell? ⟨w.heap.size + 1, 0, none⟩ = some (.string ⟨#[]⟩) := hT7.cell 0
        have tc1 : w7.cell? ⟨w.heap.size + 1, 1, none⟩ = some (.slice a f.len cap) := hT7.cell 1
        have tc2 : w7.cell? ⟨w.heap.size + 1, 2, none⟩ = some (.bool true) := hT7.cell 2
        have tc3 : w7.cell? ⟨w.heap.size + 1, 3, none⟩ = some (.int .i64 i) := hT7.cell 3
        have oc0 : w7.cell? ⟨w.heap.size, 0, none⟩ = some (.string ⟨#[]⟩) := hO7.cell 0
        have oc1 : w7.cell? ⟨w.heap.size, 1, none⟩ = some (.slice none 0 0) := hO7.cell 1
        have oc2 : w7.cell? ⟨w.heap.size, 2, none⟩ = some (.bool false) := hO7.cell 2
        have oc3 : w7.cell? ⟨w.heap.size, 3, none⟩ = some (.int .i64 0) := hO7.cell 3
        have of0 := hO7.frozen 0
        have of1 := hO7.frozen 1
        have of2 := hO7.frozen 2
        have of3 := hO7.frozen 3
        have hb1 : ¬ br = w.heap.size := by omega
        have hb2 : ¬ br = w.heap.size + 1 := by omega
        have hb3 : ¬ w.heap.size = br := by omega
        have hb4 : ¬ w.heap.size + 1 = br := by omega
        go_wp2_with fail
        have et : tr = .ok (ByteArray.empty, true, f, e' + 1) := by rw [HTR.out, if_neg (by omega)]; simp only [HE.out]; rw [if_neg (by omega)]
        rw [et]
        refine bodyPost_ret (v := .agg #[.string ⟨#[]⟩, .slice a f.len cap, .bool true, .int .i64 i]) (by simp [results, Tryz.results90, go_sem, *]) rfl ⟨?_, a, f.len, cap, rfl, ?_, ?_⟩
        · exact (((((hX7.setCell (fun _ => rfl) _).setCell (fun _ => rfl) _).setCell (by simp) _).setCell (by simp) _).setCell (by simp) _).setCell (by simp) _
        · refine hS7.move (fun b hb _ => ?_) (fun b hb _ => hb.1)
          have g1 := hb.1
          have g2 := hb.2
          rw [Below.heap_setCell _ _ _ _ (by simp; omega), Below.heap_setCell _ _ _ _ (by simp; omega), Below.heap_setCell _ _ _ _ (by simp; omega), Below.heap_setCell _ _ _ _ (by simp; omega), Below.heap_setCell _ _ _ _ (by simp; omega), Below.heap_setCell _ _ _ _ (by simp; omega)]
        · exact Blk.setOther (Blk.setOther (Blk.setOther (Blk.setOther (RD.at (RD.open hR7 _ op (by simp)) _ (e' + 1) (by simp)) _ (by simp; omega) _) _ (by simp; omega) _) _ (by simp; omega) _) _ (by simp; omega) _
      · have hge : e' = s.size := by omega
        refine wp_region_quiet_tail 7 (by kernel_rfl) (by kernel_rfl) ?_
        simp only [List.take_succ_cons, List.take_zero, List.drop_succ_cons, List.drop_zero]
        repeat (go_big_quiet_step ((go_at_call 36; refine Calls.quiet_of (more_no br s e' (op + 1) _ (by exact hR6) (by omega)))))
        refine wpQuiet_nil ?_
        rintro w' ⟨nq, rfl⟩
        go_wp2_with fail
        refine (must_no br s e' (op + 1) 20 _ (by exact hR6)).mono ?_
        rintro e w7 ⟨rfl, rfl⟩
        have et : tr = .error (e', 20) := by rw [HTR.out, if_neg (by omega)]; simp only [HE.out]; rw [if_pos hlt6]
        rw [et]
        exact ⟨rfl, hX6.drewN _, rfl⟩
  · have hbo : decide ((op : Int) < 400) = false := by simp; omega
    go_enter Tryz.func90, Tryz.ntmps90
    go_wp2_with fail
    go_quiet (fail)
    go_wp2_with fail
    refine wp_region_quiet_tail 8 (by kernel_rfl) (by kernel_rfl) ?_
    simp only [List.take_succ_cons, List.take_zero, List.drop_succ_cons, List.drop_zero]
    repeat (go_big_quiet_step (fail))
    refine wpQuiet_nil ?_
    rintro w' ⟨nq, rfl⟩
    go_wp2_with (go_at_call 35; refine (must_no br s i op 3 _ (by exact hR)).mono ?_; rintro e w3 ⟨rfl, rfl⟩)
    have et : tr = .error (i, 3) := by rw [HTR.out, if_pos hlo]
    rw [et]
    exact ⟨rfl, by first | exact hX.drewN _ | exact (hX.drewN _).drewN _, rfl⟩

theorem tree_of_row (s : ByteArray) (hs : s.size ≤ 262144) (n : Nat) (HR : RowC s n) : TreeC s (n + 1) := by
  intro i op br w hi hn hop h
  by_cases hc : s[i] = 40
  · exact tree_row s hs n HR i op br w hi hn hop h hc
  · exact tree_word s hs i op br w hi h hc

end Go.Proofs.YtmcinpeplkkpfaaGreatDoor

namespace Go.Proofs.YtmcinpeplkkpfaaGreatDoor
open Go.RowKit
theorem Tryz.infoTree : (Tryz.prog.info? 55).map (fun i => (i.zero, i.size, i.bytes)) = some (some (.agg #[.string ⟨#[]⟩, .slice none 0 0, .bool false, .int .i64 0]), 4, 56) := by kernel_rfl

theorem Tryz.eltTree : Elt Tryz.prog 48 55 4 56 := by
  obtain ⟨i0, hi0, hz0, hz1, hz2⟩ := info_parts Tryz.infoTree
  exact ⟨i0, _, Tryz.underlying48, hi0, hz0, hz1, hz2, rfl, by decide⟩

set_option maxHeartbeats 1000000 in
theorem row_of_tree (s : ByteArray) (hs : s.size ≤ 262144) (n : Nat) (HT : TreeC s n) : RowC s n := by
  intro at_ op br w hat hn hop h
  have hlt := Blk.lt h
  generalize hrr : rowP s at_ op = rr
  have HRR := Lib.hid hrr
  clear hrr
  go_enter Tryz.func34, Tryz.ntmps34
  go_wp2_with fail
  go_loopg [2] (s.size - at_) (fun g v wr => ∃ (k : Nat) (f : F) (xs : List Value), RD wr br s k op ∧ at_ ≤ k ∧ k ≤ s.size ∧ s.size - k ≤ g ∧ f.len ≤ k ∧
      wr.ownsRow w.heap.size 55 4 v f.len xs ∧ Elems (fun b => w.heap.size ≤ b ∧ v.ownBlock ≠ some b) wr f xs ∧ Hid (rowP s at_ op = R.pre f (rowP s k op)) ∧ Ext (· = br) w wr)
  case atStart => exact ⟨at_, .nil, [], h, Nat.le_refl _, hat, Nat.le_refl _, Nat.zero_le _, World.ownsRow_nil _ _ _ _, rfl, (R.pre_nil _).symm, Ext.refl _ _⟩
  case round =>
    obtain ⟨k, f, xs, hrd, hk1, hk2, hg, hfl, hown, hel, HP, hext⟩ := hrel
    go_wp2_with fail
    refine (while_blank br s k op _ hrd hk2 hs).mono ?_
    rintro e w1 ⟨rfl, hrd1, hext1⟩
    have hi1 := adv_ge isBlank s k
    have hi2 := adv_le isBlank s k hk2
    have HE := Lib.hid (rowP_tree s k op hk2)
    generalize adv isBlank s k = i at *
    have hown1 := owns_ext hown hext1 (fun b _ hb e => by omega)
    have hel1 := hel.ext hext1 (fun b hb e => by have := hb.1; omega)
    have hext2 := hext.trans' hext1
    clear hown hel hext hext1 hrd
    have c0 := hrd1.c0
    have c1 := hrd1.c1
    by_cases hlt1 : i < s.size
    · by_cases h41 : s[i] = 41
      · have h41a : ((s[i].toNat : Int) == 41) = true := by rw [h41]; rfl
        have hc41 : (41 : UInt8).toNat = 41 := rfl
        go_wp2_with fail
        go_quiet ((go_at_call 36; refine Calls.quiet_of (more_yes _ s i op _ hrd1 hlt1)))
        go_wp2_with fail
        go_ret
        have er : rr = .ok (f, i) := by rw [← HRR.out, HP.out, HE.out, dif_pos hlt1, if_pos h41]; simp [R.pre, F.app_nil]
        rw [er]
        exact ⟨hext2.drewN _, u2, rfl, (sl_owned hown1 hel1).drewN nq, Blk.drewN hrd1 _⟩
      · have h41a : ((s[i].toNat : Int) == 41) = false := by
          simp only [beq_eq_false_iff_ne]
          intro e; exact h41 (UInt8.toNat_inj.1 (by simpa using (by omega : s[i].toNat = 41)))
        go_wp2_with fail
        go_quiet ((go_at_call 36; refine Calls.quiet_of (more_yes _ s i op _ hrd1 hlt1)))
        go_wp2_with fail
        cases htr : treeP s i op s[i] with
        | error x =>
          obtain ⟨p, er⟩ := x
          have HC := HT i op br (w1.drewN nq) hlt1 (by omega) hop hrd1
          rw [htr] at HC
          refine HC.mono ?_
          rintro e w5 ⟨hx5, rfl⟩
          have er : rr = .error (p, er) := by rw [← HRR.out, HP.out, HE.out, dif_pos hlt1, if_neg h41]; simp [R.pre, htr]
          rw [er]
          exact ⟨rfl, (hext2.drewN _).trans' hx5, rfl⟩
        | ok x =>
          obtain ⟨wd, rw_, kf, e'⟩ := x
          have hend := treeP_end hlt1 htr
          have HC := HT i op br (w1.drewN nq) hlt1 (by omega) hop hrd1
          rw [htr] at HC
          refine HC.mono ?_
          rintro e w5 ⟨hx5, a, n', cap, rfl, hsl, hR5⟩
          have HTR := Lib.hid htr
          clear HC htr c0 c1 h41a
          have hown5 := owns_ext (owns_ext hown1 (ext_drewN w1 nq (fun _ => False)) (fun _ _ _ h => h)) hx5 (fun b _ hb e => by omega)
          have hel5 := (hel1.ext (ext_drewN w1 nq (fun _ => False)) (fun _ _ h => h)).ext hx5 (fun b hb e => by have := hb.1; omega)
          have hX5 := (hext2.drewN nq).trans' hx5
          have hl1 : w.heap.size ≤ w1.heap.size := hext2.size
          have hu2 := hown1.lt
          clear hown1 hel1 hext2 hrd1
          go_wp2_with ((at_builtin; refine wpList_append_one rfl (.tmp 27) (.tmp 30) 48 rfl w.heap.size 55 4 56 Tryz.eltTree _ _ _ rfl hown5 [.string wd, .slice a n' cap, .bool rw_, .int .i64 i] rfl rfl rfl (by unfold maxLen; omega) (by omega) (by have := hX5.size; omega) ?_; intro v' w6 hown6 hg6))
          go_roundg (s.size - e')
          case measure => omega
          case rel =>
            refine ⟨e', f.app (.cons wd rw_ i kf .nil), _, ?_, by omega, by omega, Nat.le_refl _, ?_, ?_, Elems.snoc (hel5.grew hg6) ?_ (Sl.grew (hsl.mono ?_) hg6), ?_, hg6.ext hX5 ?_⟩
            · exact (hg6.by_.block br (Blk.lt hR5) (fun e => by have := (hu2 br e.symm).1; omega)).trans hR5
            · rw [F.len_app]; simp only [F.len]; omega
            · rw [F.len_app]; exact hown6
            · unfold maxLen; omega
            · exact fun b hb _ => ⟨by have : w1.heap.size ≤ b := hb; omega, fun e => by have : w1.heap.size ≤ b := hb; have := (hu2 b e).2; omega⟩
            · exact show _ = _ by rw [HP.out, HE.out, dif_pos hlt1, if_neg h41]; simp only [HTR.out]; rw [R.pre_pre]
            · exact fun k hk hlt => by have := (hu2 k hk).1; omega
    · go_wp2_with fail
      go_quiet ((go_at_call 36; refine Calls.quiet_of (more_no _ s i op _ hrd1 (by omega))))
      go_wp2_with fail
      go_ret
      have er : rr = .ok (f, i) := by rw [← HRR.out, HP.out, HE.out, dif_neg hlt1]; simp [R.pre, F.app_nil]
      rw [er]
      exact ⟨hext2.drewN _, u2, rfl, (sl_owned hown1 hel1).drewN nq, Blk.drewN hrd1 _⟩

theorem both (s : ByteArray) (hs : s.size ≤ 262144) : ∀ n, TreeC s n
  | 0 => fun _ _ _ _ _ h => by omega
  | n + 1 => tree_of_row s hs n (row_of_tree s hs n (both s hs n))

theorem row_any (s : ByteArray) (hs : s.size ≤ 262144) (i op br : Nat) (w : World) (hi : i ≤ s.size) (hop : op ≤ 400) (h : RD w br s i op) :
    Calls Tryz.prog 34 #[.pointer (some ⟨br, 0, none⟩)] w (RowPost w br s op (rowP s i op)) :=
  row_of_tree s hs (s.size + 1) (both s hs (s.size + 1)) i op br w hi (by omega) hop h

end Go.Proofs.YtmcinpeplkkpfaaGreatDoor

namespace Go.Proofs.YtmcinpeplkkpfaaGreatDoor
open Go.RowKit
theorem assert_fault (v : Value) (w : World) : (Instr.typeAssert (.iface 80 v) 20 80 true).run Tryz.prog w = .ok (.tuple #[v, .bool true]) w := by kernel_rfl

def CatchQ (b2 b3 b4 : Nat) (t2 t3 t4 : Nat) (at_ er : Int) (w : World) (e : Exit) (a : Act) (w' : World) : Prop :=
  (e = .normal ∨ e = .ret) ∧ a.defers = [] ∧ Ext (fun b => b = b2 ∨ b = b3 ∨ b = b4) w w' ∧ Blk w' b2 #[.slice none 0 0] t2 ∧ Blk w' b3 #[.int .i64 at_] t3 ∧ Blk w' b4 #[.int .i64 er] t4

set_option maxHeartbeats 1000000 in
theorem catch_fault (b2 b3 b4 : Nat) (x2 x3 x4 : Value) (t2 t3 t4 : Nat) (at_ er : Int) (w : World) (h2 : Blk w b2 #[x2] t2) (h3 : Blk w b3 #[x3] t3) (h4 : Blk w b4 #[x4] t4) (h23 : b2 ≠ b3) (h24 : b2 ≠ b4) (h34 : b3 ≠ b4) :
    CallsD Tryz.prog 33 #[.pointer (some ⟨b2, 0, none⟩), .pointer (some ⟨b3, 0, none⟩), .pointer (some ⟨b4, 0, none⟩)] (.panicking ({ v := .iface 80 (.agg #[.int .i64 at_, .int .i64 er]), recovered := false } :: [])) w fun e u' w' =>
      e = .returned (.tuple #[]) ∧ u' = .panicking ({ v := .iface 80 (.agg #[.int .i64 at_, .int .i64 er]), recovered := true } :: []) ∧
      Ext (fun b => b = b2 ∨ b = b3 ∨ b = b4) w w' ∧ Blk w' b2 #[.slice none 0 0] t2 ∧ Blk w' b3 #[.int .i64 at_] t3 ∧ Blk w' b4 #[.int .i64 er] t4 := by
  refine callsD_of_wpS Tryz.func33 rfl fun c₀ cs hu => ?_
  apply wpS_seq
  apply wpS_region
  simp [wpOpsS, go_sem, recoverD, hu, Tryz.ntmps33, Exit.thenS]
  refine wpS_of_wp ?_
  refine Code.wp_mono (Q := CatchQ b2 b3 b4 t2 t3 t4 at_ er w) ?_ ?_
  · rintro e a w' ⟨he, hd, hq⟩
    rcases he with rfl | rfl
    · simp [bodyPostS, results, hd]
      exact hq
    · simp [bodyPostS, results, hd]
      exact hq
  have c2 := h2.cell 0
  have c3 := h3.cell 0
  have c4 := h4.cell 0
  have f2 := h2.frozen 0
  have f3 := h3.frozen 0
  have f4 := h4.frozen 0
  simp at c2 c3 c4
  clear hu
  have hta := assert_fault
  simp only [Array.replicate_succ, Array.replicate_zero, List.push_toArray, List.append_toArray, List.nil_append, List.cons_append, List.setIfInBounds_toArray, List.set_cons_succ, List.set_cons_zero]
  go_wp2_with fail
  have hb2 := h2.lt
  have hb3 := h3.lt
  have hb4 := h4.lt
  go_region
  refine ⟨.inl rfl, rfl, ?_, ?_, ?_, ?_⟩
  · exact ((((Ext.refl (fun b => b = b2 ∨ b = b3 ∨ b = b4) w).setCell (fun _ => .inl rfl) _).setCell (fun _ => .inr (.inl rfl)) _).setCell (fun _ => .inr (.inr rfl)) _).alloc _ |>.drew
  · exact ((((h2.set 0 _).setOther _ (by simp; omega) _).setOther _ (by simp; omega) _).alloc _).drew
  · exact ((((h3.setOther _ (by simp; omega) _).set 0 _).setOther _ (by simp; omega) _).alloc _).drew
  · exact ((((h4.setOther _ (by simp; omega) _).setOther _ (by simp; omega) _).set 0 _).alloc _).drew

theorem catch_idle (p2 p3 p4 : Value) (w : World) :
    CallsD Tryz.prog 33 #[p2, p3, p4] .returning w fun e u' w' => e = .returned (.tuple #[]) ∧ u' = .returning ∧ w' = w := by
  refine callsD_of_wpS Tryz.func33 rfl fun c₀ cs hu => ?_
  apply wpS_seq
  apply wpS_region
  simp [wpOpsS, go_sem, recoverD, hu, Tryz.ntmps33, Exit.thenS]
  apply wpS_seq
  apply wpS_region
  simp [wpOpsS, go_sem, Exit.thenS]
  refine wpS_cond (t := false) (by simp [Act.eval, Array.replicate]) ?_
  simp only [Bool.false_eq_true, if_false]
  refine wpS_of_wp (wp_skip ?_)
  cases c₀
  simp_all [bodyPostS, results]

def ParsePost (w : World) (r : F × Nat × Int) (e : Ending) (w' : World) : Prop :=
  Ext (fun _ => False) w w' ∧ ∃ v, e = .returned (.tuple #[v, .int .i64 r.2.1, .int .i64 r.2.2]) ∧ Sl (fun b => w.heap.size ≤ b) w' v r.1

set_option maxHeartbeats 1000000 in
theorem parse_long (s : ByteArray) (w : World) (hs : 262144 < s.size) (hm : s.size ≤ maxLen) :
    Calls Tryz.prog 19 #[.string s] w (ParsePost w (parseS s)) := by
  have hp : parseS s = (.nil, 0, 3) := by unfold parseS; rw [if_pos hs]
  rw [hp]
  unfold maxLen at hm
  have hmf : ∀ (fn : Fn) (first cap : Array Value) (w : World), (Instr.makeFunc fn first cap).run Tryz.prog w = .ok (.func fn first cap) w := fun _ _ _ _ => rfl
  go_enter_defers Tryz.func19, Tryz.ntmps19
  go_wp2_with fail
  refine ⟨.tuple #[.slice none 0 0, .int .i64 0, .int .i64 3], by simp [results, Tryz.results19, go_sem], ?_, _, rfl, Sl.nil _ _⟩
  exact (((Ext.refl _ w).alloc _).alloc _).alloc _

set_option maxHeartbeats 2000000 in
theorem parse_short (s : ByteArray) (w : World) (hs : s.size ≤ 262144) :
    Calls Tryz.prog 19 #[.string s] w (ParsePost w (parseS s)) := by
  have hsz : ¬ (262144 : Int) < (s.size : Int) := by omega
  have hsd : decide ((262144 : Int) < (s.size : Int)) = false := by simp; omega
  generalize hpp : parseS s = pp
  have HP := Lib.hid hpp
  clear hpp
  have hmf : ∀ (fn : Fn) (first cap : Array Value) (w : World), (Instr.makeFunc fn first cap).run Tryz.prog w = .ok (.func fn first cap) w := fun _ _ _ _ => rfl
  have H2 : Blk ((((w.alloc (.cells #[.slice none 0 0] 48)).alloc (.cells #[.int .i64 0] 3)).alloc (.cells #[.int .i64 0] 30)).alloc (.cells #[.string s, .int .i64 0, .int .i64 0] 86)) w.heap.size #[.slice none 0 0] 48 :=
    (((Blk.new w _ _).alloc _).alloc _).alloc _
  have H3 : Blk ((((w.alloc (.cells #[.slice none 0 0] 48)).alloc (.cells #[.int .i64 0] 3)).alloc (.cells #[.int .i64 0] 30)).alloc (.cells #[.string s, .int .i64 0, .int .i64 0] 86)) (w.heap.size + 1) #[.int .i64 0] 3 := by
    have := ((Blk.new (w.alloc (.cells #[.slice none 0 0] 48)) #[.int .i64 0] 3).alloc (.cells #[.int .i64 0] 30)).alloc (.cells #[.string s, .int .i64 0, .int .i64 0] 86)
    simpa using this
  have H4 : Blk ((((w.alloc (.cells #[.slice none 0 0] 48)).alloc (.cells #[.int .i64 0] 3)).alloc (.cells #[.int .i64 0] 30)).alloc (.cells #[.string s, .int .i64 0, .int .i64 0] 86)) (w.heap.size + 1 + 1) #[.int .i64 0] 30 := by
    have := (Blk.new ((w.alloc (.cells #[.slice none 0 0] 48)).alloc (.cells #[.int .i64 0] 3)) #[.int .i64 0] 30).alloc (.cells #[.string s, .int .i64 0, .int .i64 0] 86)
    simpa using this
  have HR : RD ((((w.alloc (.cells #[.slice none 0 0] 48)).alloc (.cells #[.int .i64 0] 3)).alloc (.cells #[.int .i64 0] 30)).alloc (.cells #[.string s, .int .i64 0, .int .i64 0] 86)) (w.heap.size + 1 + 1 + 1) s 0 0 := by
    have := Blk.new (((w.alloc (.cells #[.slice none 0 0] 48)).alloc (.cells #[.int .i64 0] 3)).alloc (.cells #[.int .i64 0] 30)) #[.string s, .int .i64 0, .int .i64 0] 86
    simpa [RD] using this
  have HX := ((((Ext.refl (fun _ => False) w).alloc (.cells #[.slice none 0 0] 48)).alloc (.cells #[.int .i64 0] 3)).alloc (.cells #[.int .i64 0] 30)).alloc (.cells #[.string s, .int .i64 0, .int .i64 0] 86)
  go_enter_defers Tryz.func19, Tryz.ntmps19
  go_wp2_with fail
  generalize (((w.alloc (.cells #[.slice none 0 0] 48)).alloc (.cells #[.int .i64 0] 3)).alloc (.cells #[.int .i64 0] 30)).alloc (.cells #[.string s, .int .i64 0, .int .i64 0] 86) = w1 at H2 H3 H4 HR HX ⊢
  clear hsz hsd
  have HC := row_any s hs 0 0 _ _ (by omega) (by omega) HR
  cases hr : rowP s 0 0 with
  | error x =>
    obtain ⟨p, er⟩ := x
    rw [hr] at HC
    refine HC.mono ?_
    rintro e w2 ⟨hx2, rfl⟩
    have ep : pp = (.nil, p, er) := by rw [← HP.out]; unfold parseS; rw [if_neg (by omega)]; simp only [hr]
    rw [ep]
    refine leaves_cons (f := 33) (args := #[.pointer (some ⟨w.heap.size, 0, none⟩), .pointer (some ⟨w.heap.size + 1, 0, none⟩), .pointer (some ⟨w.heap.size + 1 + 1, 0, none⟩)]) (by simp [faultChain]) (by simp [go_sem]) ?_
    refine (catch_fault _ _ _ _ _ _ _ _ _ p er _ (H2.ext hx2 (by omega)) (H3.ext hx2 (by omega)) (H4.ext hx2 (by omega)) (by omega) (by omega) (by omega)).mono ?_
    rintro e u' w3 ⟨rfl, rfl, hx3, g2, g3, g4⟩
    have c2 := g2.cell 0
    have c3 := g3.cell 0
    have c4 := g4.cell 0
    simp at c2 c3 c4
    refine ⟨.tuple #[.slice none 0 0, .int .i64 p, .int .i64 er], by simp [results, Tryz.results19, go_sem, c2, c3, c4], ?_, _, rfl, Sl.nil _ _⟩
    exact (HX.trans hx2 (fun i hi hM => by omega)).trans hx3 (fun i hi hM => by rcases hM with h | h | h <;> omega)
  | ok x =>
    obtain ⟨f, e'⟩ := x
    have hend := rowP_end (by omega) hr
    rw [hr] at HC
    refine HC.mono ?_
    rintro e w2 ⟨hx2, v, rfl, hsl, hR2⟩
    obtain ⟨a, cap, rfl, _, _⟩ := hsl.shape
    have hl1 := HX.size
    have hl2 := H4.lt
    have hl3 := Blk.lt HR
    replace H2 := H2.ext hx2 (by omega)
    replace H3 := H3.ext hx2 (by omega)
    replace H4 := H4.ext hx2 (by omega)
    replace HX := HX.trans hx2 (fun i hi hM => by omega)
    clear HC HR hx2
    have c2 := H2.cell 0
    have f2 := H2.frozen 0
    simp at c2
    have HE := Lib.hid hr
    clear hr
    go_wp2_with fail
    have hsl3 : Sl (fun b => w.heap.size + 1 + 1 < b) (w2.setCell ⟨w.heap.size, 0, none⟩ (.slice a f.len cap)) (.slice a f.len cap) f :=
      hsl.move (fun b hb _ => by rw [Below.heap_setCell _ _ _ _ (by simp; omega)]) (fun b hb _ => by omega)
    replace H2 := H2.set 0 (.slice a f.len cap)
    replace H3 := H3.setOther ⟨w.heap.size, 0, none⟩ (by simp) (.slice a f.len cap)
    replace H4 := H4.setOther ⟨w.heap.size, 0, none⟩ (by simp; omega) (.slice a f.len cap)
    replace HX := HX.setCell (p := ⟨w.heap.size, 0, none⟩) (by simp) (.slice a f.len cap)
    replace hR2 := Blk.setOther hR2 ⟨w.heap.size, 0, none⟩ (by simp; omega) (.slice a f.len cap)
    generalize w2.setCell ⟨w.heap.size, 0, none⟩ (.slice a f.len cap) = w3 at H2 H3 H4 HX hR2 hsl3 ⊢
    clear c2 f2 hsl
    by_cases hlt : e' < s.size
    · refine wp_region_quiet_tail 8 (by kernel_rfl) (by kernel_rfl) ?_
      simp only [List.take_succ_cons, List.take_zero, List.drop_succ_cons, List.drop_zero]
      repeat (go_big_quiet_step ((go_at_call 36; refine Calls.quiet_of (more_yes _ s e' 0 _ (by exact hR2) hlt))))
      refine wpQuiet_nil ?_
      rintro w' ⟨nq, rfl⟩
      go_wp2_with fail
      refine (must_no _ s e' 0 20 _ (by exact hR2)).mono ?_
      rintro e w4 ⟨rfl, rfl⟩
      have ep : pp = (.nil, e', 20) := by rw [← HP.out]; unfold parseS; rw [if_neg (by omega)]; simp only [HE.out]; rw [if_pos hlt]
      rw [ep]
      refine leaves_cons (f := 33) (args := #[.pointer (some ⟨w.heap.size, 0, none⟩), .pointer (some ⟨w.heap.size + 1, 0, none⟩), .pointer (some ⟨w.heap.size + 1 + 1, 0, none⟩)]) (by simp [faultChain]) (by simp [go_sem]) ?_
      refine (catch_fault _ _ _ _ _ _ _ _ _ e' 20 _ (H2.drewN _) (H3.drewN _) (H4.drewN _) (by omega) (by omega) (by omega)).mono ?_
      rintro e u' w5 ⟨rfl, rfl, hx5, g2, g3, g4⟩
      have c2 := g2.cell 0
      have c3 := g3.cell 0
      have c4 := g4.cell 0
      simp at c2 c3 c4
      refine ⟨.tuple #[.slice none 0 0, .int .i64 e', .int .i64 20], by simp [results, Tryz.results19, go_sem, c2, c3, c4], ?_, _, rfl, Sl.nil _ _⟩
      exact (HX.drewN _).trans hx5 (fun i hi hM => by rcases hM with h | h | h <;> omega)
    · refine wp_region_quiet_tail 8 (by kernel_rfl) (by kernel_rfl) ?_
      simp only [List.take_succ_cons, List.take_zero, List.drop_succ_cons, List.drop_zero]
      repeat (go_big_quiet_step ((go_at_call 36; refine Calls.quiet_of (more_no _ s e' 0 _ (by exact hR2) (by omega)))))
      refine wpQuiet_nil ?_
      rintro w' ⟨nq, rfl⟩
      go_wp2_with fail
      refine (must_yes _ 20 _).mono ?_
      rintro e w4 ⟨rfl, hw4⟩
      replace H2 : Blk w4 w.heap.size #[.slice a f.len cap] 48 := by rw [← hw4]; exact H2
      replace H3 : Blk w4 (w.heap.size + 1) #[.int .i64 0] 3 := by rw [← hw4]; exact H3
      replace H4 : Blk w4 (w.heap.size + 1 + 1) #[.int .i64 0] 30 := by rw [← hw4]; exact H4
      replace HX : Ext (fun _ => False) w w4 := by rw [← hw4]; exact HX.drewN _
      replace hsl3 : Sl (fun b => w.heap.size + 1 + 1 < b) w4 (.slice a f.len cap) f := by rw [← hw4]; exact hsl3.drewN _
      clear hw4 hR2
      have c2 := H2.cell 0
      have c3 := H3.cell 0
      have c4 := H4.cell 0
      have f2 := H2.frozen 0
      have f3 := H3.frozen 0
      have f4 := H4.frozen 0
      simp at c2 c3 c4
      go_wp2_with fail
      have ep : pp = (f, 0, 0) := by rw [← HP.out]; unfold parseS; rw [if_neg (by omega)]; simp only [HE.out]; rw [if_neg hlt]
      rw [ep]
      refine leaves_cons (f := 33) (args := #[.pointer (some ⟨w.heap.size, 0, none⟩), .pointer (some ⟨w.heap.size + 1, 0, none⟩), .pointer (some ⟨w.heap.size + 1 + 1, 0, none⟩)]) (by simp) (by simp [go_sem]) ?_
      refine (catch_idle _ _ _ _).mono ?_
      rintro e u' w5 ⟨rfl, rfl, rfl⟩
      refine ⟨.tuple #[.slice a f.len cap, .int .i64 0, .int .i64 0], by simp [results, Tryz.results19, go_sem, c2, c3, c4], ?_, _, rfl, ?_⟩
      · exact ((HX.setCell (by simp) _).setCell (by simp) _).setCell (by simp; omega) _
      · refine hsl3.move (fun b hb _ => ?_) (fun b hb _ => by omega)
        rw [Below.heap_setCell _ _ _ _ (by simp; omega), Below.heap_setCell _ _ _ _ (by simp; omega), Below.heap_setCell _ _ _ _ (by simp; omega)]

theorem parse_any (s : ByteArray) (w : World) (hm : s.size ≤ maxLen) : Calls Tryz.prog 19 #[.string s] w (ParsePost w (parseS s)) := by
  by_cases h : 262144 < s.size
  · exact parse_long s w h hm
  · exact parse_short s w (by omega)

end Go.Proofs.YtmcinpeplkkpfaaGreatDoor

namespace Go.Proofs.YtmcinpeplkkpfaaGreatDoor
open Go.RowKit
set_option linter.unusedVariables false
set_option linter.unusedSimpArgs false
theorem ownsRow_len {w : World} {base e size n : Nat} {v : Value} {xs : List Value} (h : w.ownsRow base e size v n xs) (hs : 0 < size) : ∃ a c, v = .slice a n c := by
  have hl := h.1
  rcases h.2 with ⟨rfl, rfl⟩ | ⟨g0, cap0, _, rfl, _⟩
  · exact ⟨_, _, rfl⟩
  · exact ⟨_, _, rfl⟩

theorem results_cell3 {P : Program} {fn : Func} {i j k : Tmp} {t : TypeId} (h : fn.results = #[.cell i t, .tmp j, .tmp k]) {tmps : Array Value} {b : Nat} (hp : tmps.getD i undef = .pointer (some ⟨b, 0, none⟩)) {cs : List Value} {T : TypeId} {w : World}
    (ha : ∀ w, (isAgg t).run P w = .ok true w) (hs : ∀ w, (sizeOf t).run P w = .ok cs.length w) (hb : Blk w b cs.toArray T) : (results fn tmps).run P w = .ok (.tuple #[.agg cs.toArray, tmps.getD j undef, tmps.getD k undef]) w := by
  have hl : (loadCells ⟨b, 0, none⟩ cs.length).run P w = .ok cs.toArray w := run_loadCells_list w ⟨b, 0, none⟩ cs (fun j v hj => by
    rw [Addr.add_lit, Nat.zero_add, hb.cell j]; simpa using hj)
  have h1 : (loadVar t ⟨b, 0, none⟩).run P w = .ok (.agg cs.toArray) w := by
    simp only [loadVar, Sem.run_bind, ha, Result.andThen, if_true, hs]
    simp [hl]
  rw [Array.getD_eq_getD_getElem?] at hp
  simp [results, h, hp, asAddr, h1]

def OneR (res : RR Fu) (w : World) (e : Ending) (w' : World) : Prop :=
  Ext (fun _ => False) w w' ∧ match res with
    | .ok _ => ∃ a cap, e = .returned (.tuple #[.agg #[.slice none 0 0, .slice none 0 0, .slice a 1 cap, .slice none 0 0], .int .i64 0, .int .i64 0])
    | .error q => e = .returned (.tuple #[.agg #[.slice none 0 0, .slice none 0 0, .slice none 0 0, .slice none 0 0], .int .i64 q, .int .i64 20])

def OneInv (fb pb base : Nat) (res : RR Fu) (w w' : World) : Prop :=
  Ext (fun b => b = fb ∨ b = pb ∨ base ≤ b) w w' ∧ match res with
    | .ok f => Fst w' fb false 0 ∧ PgF base w' pb ([] ++ [f])
    | .error q => Fst w' fb true q

set_option maxRecDepth 100000 in
set_option maxHeartbeats 2000000 in
theorem program_one (s : ByteArray) (w : World) (hm : s.size ≤ maxLen) {wd : ByteArray} {p : Int} {k : F} (hp : parseS s = (.cons wd true p k .nil, 0, 0)) (hks : k.size ≤ 262144) (e1 : wIs (headW true k) [102, 117, 110] = true)
    (HBODY : ∀ B fb wd1 r1 p1 k1, B ≤ fb → k.get 4 = some (wd1, r1, p1, k1) → Reads1 B fb 53 (shpN 11) mkAgg encEx (fun wd r p k => bodyOf r p k (bodyS k)) wd1 r1 p1 k1) :
    Calls Tryz.prog 11 #[.string s] w (OneR (funB p k) w) := by
  have HP := Lib.hid (fun w => parse_any s w hm)
  rw [hp] at HP
  obtain ⟨res, hres0⟩ : ∃ res, res = funB p k := ⟨_, rfl⟩
  have HTOP := Lib.hid (fun (B base : Nat) (kv : Value) (fb pb : Nat) (w : World) h1 h2 h3 h4 h5 h6 h7 hF hk hP => top_fun (B := B) (base := base) wd kv p fb pb k w [] hks h1 h2 h3 h4 h5 h6 h7 hF hk hP (by decide) e1 (fun wd1 r1 p1 k1 hg => HBODY B fb wd1 r1 p1 k1 h2 hg))
  rw [← hres0] at HTOP ⊢
  clear hp hres0 HBODY e1 hks
  have hrb := Blk.new w #[.slice none 0 0, .slice none 0 0, .slice none 0 0, .slice none 0 0] 29
  have hx0 := (Ext.refl (fun _ => False) w).alloc (.cells #[.slice none 0 0, .slice none 0 0, .slice none 0 0, .slice none 0 0] 29)
  have hz0 : (w.alloc (.cells #[.slice none 0 0, .slice none 0 0, .slice none 0 0, .slice none 0 0] 29)).heap.size = w.heap.size + 1 := by simp
  have HRB := Lib.hid hrb
  have HX0 := Lib.hid hx0
  have HZ0 := Lib.hid hz0
  clear hrb hx0 hz0
  go_enter Tryz.func11, Tryz.ntmps11
  go_wp2_with fail
  refine (HP.out _).mono ?_
  rintro e w1 ⟨hx1, v1, rfl, hs1⟩
  have hz1 := hx1.size
  rw [HZ0.out] at hz1
  have HRB1 := Lib.hid (HRB.out.ext hx1 id)
  have HX1 := Lib.hid (HX0.out.trans' hx1)
  have hsB := hs1.mono (D' := (· < w1.heap.size)) (fun b _ hlt => hlt)
  have hcons := hsB.cons
  simp only [F.len] at hcons
  obtain ⟨bt, off, cap, rfl, hcp, hcm, hD, c0, ⟨kv, c1, hk⟩, c2, c3, hwd, _⟩ := hcons
  obtain ⟨ka, kcap, rfl, _⟩ := hk.shape
  have HK := Lib.hid hk
  have l1 : bt < w1.heap.size := hD
  clear hsB hs1 hx1 hk HP HZ0 HRB HX0 hD
  have hy1 := (Ext.refl (fun _ => False) w1).alloc (.cells #[.slice none 0 0, .slice none 0 0, .slice none 0 0, .slice none 0 0] 29)
  have hy2 := hy1.alloc (.cells #[.bool false, .int .i64 0] 53)
  have hpb := (Blk.new w1 #[.slice none 0 0, .slice none 0 0, .slice none 0 0, .slice none 0 0] 29).alloc (.cells #[.bool false, .int .i64 0] 53)
  have hz2 : (w1.alloc (.cells #[.slice none 0 0, .slice none 0 0, .slice none 0 0, .slice none 0 0] 29)).heap.size = w1.heap.size + 1 := by simp
  have hfb : Fst ((w1.alloc (.cells #[.slice none 0 0, .slice none 0 0, .slice none 0 0, .slice none 0 0] 29)).alloc (.cells #[.bool false, .int .i64 0] 53)) (w1.heap.size + 1) false 0 := by
    have := Blk.new (w1.alloc (.cells #[.slice none 0 0, .slice none 0 0, .slice none 0 0, .slice none 0 0] 29)) #[.bool false, .int .i64 0] 53
    rw [hz2] at this
    exact this
  have hz3 : ((w1.alloc (.cells #[.slice none 0 0, .slice none 0 0, .slice none 0 0, .slice none 0 0] 29)).alloc (.cells #[.bool false, .int .i64 0] 53)).heap.size = w1.heap.size + 2 := by simp
  have HY2 := Lib.hid hy2
  have HPB := Lib.hid hpb
  have HFB := Lib.hid hfb
  have HZ3 := Lib.hid hz3
  clear hy1 hy2 hpb hfb hz2 hz3
  go_wp2_with fail
  generalize (w1.alloc (.cells #[.slice none 0 0, .slice none 0 0, .slice none 0 0, .slice none 0 0] 29)).alloc (.cells #[.bool false, .int .i64 0] 53) = w2 at *
  have d0 := HY2.out.cellSome c0 id
  have d1 := HY2.out.cellSome c1 id
  have d2 := HY2.out.cellSome c2 id
  have d3 := HY2.out.cellSome c3 id
  have HK2 := Lib.hid (HK.out.ext HY2.out (fun _ _ h => h))
  have HX2 := Lib.hid (HX1.out.trans' HY2.out)
  have HRB2 := Lib.hid (HRB1.out.ext HY2.out id)
  clear c0 c1 c2 c3 HK HX1 HRB1 HY2
  generalize w1.heap.size = B at *
  go_loopg [27] 1 (fun q v wr => (q = 1 ∧ v = .int .i64 0 ∧ wr = w2) ∨ (q = 0 ∧ v = .int .i64 1 ∧ Hid (OneInv (B + 1) B (B + 2) res w2 wr)))
  case atStart => exact .inl ⟨rfl, rfl, rfl⟩
  case round =>
    rcases hrel with ⟨rfl, rfl, rfl⟩ | ⟨rfl, rfl, HI⟩
    · obtain ⟨f0, f1⟩ := Fst.cells HFB.out
      have hz := HZ3.out
      have lB : B + 1 < wr.heap.size := by omega
      have lt : bt < wr.heap.size := by omega
      clear hz
      go_wp2_with fail
      have hx3 := (Ext.refl (fun _ => False) wr).alloc (.cells #[.string wd, .slice ka k.len kcap, .bool true, .int .i64 p] 55)
      refine (HTOP.out B (B + 2) (.slice ka k.len kcap) (B + 1) B _ (by simp; have := HZ3.out; omega) (by omega) (Nat.le_refl _) (by omega) (by omega) (by omega) (by simp; have := HZ3.out; omega) (Fst.ext HFB.out hx3 id) (HK2.out.ext hx3 (fun _ _ h => h)) ⟨.slice none 0 0, [], HPB.out.ext hx3 id, ⟨by simp, .inl ⟨rfl, rfl⟩⟩, rfl⟩).mono ?_
      rintro e w4 ⟨rfl, hx4, hres⟩
      have HI : Hid (OneInv (B + 1) B (B + 2) res wr w4) := Lib.hid ⟨(hx3.mono (M' := fun b => b = B + 1 ∨ b = B ∨ B + 2 ≤ b) (fun _ _ h => h.elim)).trans' hx4, hres⟩
      clear hx3 hx4 hres f0 f1 d0 d1 d2 d3
      go_wp2_with fail
      go_roundg 0
      case measure => omega
      case rel => exact .inr ⟨rfl, rfl, HI⟩
    · obtain ⟨hx5, hres⟩ := HI.out
      have hz := HZ3.out
      have hb5 := HRB2.out.ext hx5 (fun e => by omega)
      have hzr := hx5.size
      have lB : B + 1 < wr.heap.size := by omega
      have lr : w.heap.size < wr.heap.size := by omega
      have HXR : Hid (Ext (fun _ => False) w wr) := Lib.hid ((HX2.out.trans hx5 (fun b hb h => by omega)))
      have r0 := hb5.cell 0
      have r1 := hb5.cell 1
      have r2 := hb5.cell 2
      have r3 := hb5.cell 3
      have s0 := hb5.frozen 0
      have s1 := hb5.frozen 1
      have s2 := hb5.frozen 2
      have s3 := hb5.frozen 3
      simp only [List.getElem?_toArray, List.getElem?_cons_zero, List.getElem?_cons_succ] at r0 r1 r2 r3
      have HBF := Lib.hid hb5
      clear hb5 hx5 hz hzr d0 d1 d2 d3
      cases res with
      | ok f =>
        obtain ⟨hF5, v, xs, hP5, hown, _⟩ := hres
        obtain ⟨a9, cap9, rfl⟩ := ownsRow_len hown (by decide)
        obtain ⟨f0, f1⟩ := Fst.cells hF5
        have p0 := hP5.cell 0
        have p1 := hP5.cell 1
        have p2 := hP5.cell 2
        have p3 := hP5.cell 3
        simp only [List.getElem?_toArray, List.getElem?_cons_zero, List.getElem?_cons_succ] at p0 p1 p2 p3
        simp only [List.nil_append, List.length_singleton] at p2 ⊢
        clear hP5 hown hF5
        go_wp2_with fail
        refine bodyPost_ret (results_cell3 Tryz.results11 rfl (fun _ => by kernel_rfl) (fun _ => by kernel_rfl) (sets_new [.slice none 0 0, .slice none 0 0, .slice a9 1 cap9, .slice none 0 0] HBF.out rfl)) rfl ⟨?_, a9, cap9, rfl⟩
        exact sets_ext (b := w.heap.size) (fun h => by have h : w.heap.size < w.heap.size := h; omega) [.slice none 0 0, .slice none 0 0, .slice a9 1 cap9, .slice none 0 0] 0 _ HXR.out
      | error q =>
        obtain ⟨f0, f1⟩ := Fst.cells hres
        go_wp2_with fail
        go_region
        go_wp2_with fail
        refine bodyPost_ret (results_cell3 Tryz.results11 rfl (fun _ => by kernel_rfl) (fun _ => by kernel_rfl) ((sets_new [.slice none 0 0, .slice none 0 0, .slice none 0 0, .slice none 0 0] HBF.out rfl).drew)) rfl ⟨?_, rfl⟩
        exact (sets_ext (b := w.heap.size) (fun h => by have h : w.heap.size < w.heap.size := h; omega) [.slice none 0 0, .slice none 0 0, .slice none 0 0, .slice none 0 0] 0 _ HXR.out).drew

end Go.Proofs.YtmcinpeplkkpfaaGreatDoor
