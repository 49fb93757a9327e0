/- Walks: the reader's two functions that call each other (row, tree). -/
import Derived.Test.YthiaikbdghmnbaaDoorLexW1
import Derived.Test.YthiaikbdghmnbaaDoorQTail
import Derived.Deep.RegionHeld3
namespace Go.Proofs.YthiaikbdghmnbaaDoor
open Go.RowKit

abbrev TR := Except (Nat × Int) (ByteArray × Bool × F × Nat)

/-- One tree, that begins here. -/
def treeP (s : ByteArray) (i op : Nat) (c : UInt8) : TR :=
  if c ≠ 40 then
    if adv isSign s i = i then .error (i, 20) else .ok (s.extract i (adv isSign s i), false, .nil, adv isSign s i)
  else if ¬ op < 400 then .error (i, 3)
  else match rowP s (i + 1) (op + 1) with
    | .error x => .error x
    | .ok (f, e) => if ¬ e < s.size then .error (e, 20) else .ok (ByteArray.empty, true, f, e + 1)

theorem treeP_end {s : ByteArray} {i op : Nat} {c : UInt8} {wd : ByteArray} {r : Bool} {f : F} {e : Nat} (hi : i < s.size) (h : treeP s i op c = .ok (wd, r, f, e)) : i < e ∧ e ≤ s.size ∧ wd.size ≤ s.size := by
  unfold treeP at h
  split at h
  · split at h
    · cases h
    · rename_i hne
      have h3 := adv_ge isSign s i
      have h4 := adv_le isSign s i (by omega)
      simp at h
      obtain ⟨rfl, _, _, rfl⟩ := h
      refine ⟨by omega, h4, ?_⟩
      simp; omega
  · split at h
    · cases h
    · split at h
      · cases h
      · rename_i f' e' hr
        have := rowP_end (by omega) hr
        split at h
        · cases h
        · simp at h
          obtain ⟨rfl, _, _, rfl⟩ := h
          exact ⟨by omega, by omega, by simp⟩

theorem rowP_tree (s : ByteArray) (at_ op : Nat) (hat : at_ ≤ s.size) : rowP s at_ op =
    if h : adv isBlank s at_ < s.size then
      if s[adv isBlank s at_] = 41 then .ok (.nil, adv isBlank s at_)
      else match treeP s (adv isBlank s at_) op s[adv isBlank s at_] with
        | .error x => .error x
        | .ok (wd, r, f, e) => R.pre (.cons wd r (adv isBlank s at_) f .nil) (rowP s e op)
    else .ok (.nil, adv isBlank s at_) := by
  rw [rowP_eq s at_ op hat]
  split
  · split
    · rfl
    · unfold treeP
      split
      · split <;> rfl
      · split
        · rfl
        · cases rowP s (adv isBlank s at_ + 1) (op + 1) with
          | error x => rfl
          | ok x =>
            obtain ⟨f, e⟩ := x
            simp only
            split <;> rfl
  · rfl

def TreePost (w : World) (br : Nat) (s : ByteArray) (op i : Nat) (r : TR) (e : Ending) (w' : World) : Prop :=
  Ext (· = br) w w' ∧ match r with
  | .ok (wd, rw, f, e') => ∃ a n cap, e = .returned (.agg #[.string wd, .slice a n cap, .bool rw, .int .i64 i]) ∧ Sl (fun b => w.heap.size ≤ b) w' (.slice a n cap) f ∧ RD w' br s e' op
  | .error (p, er) => e = .panicked (faultChain p er)

def RowPost (w : World) (br : Nat) (s : ByteArray) (op : Nat) (r : R) (e : Ending) (w' : World) : Prop :=
  Ext (· = br) w w' ∧ match r with
  | .ok (f, e') => ∃ v, e = .returned v ∧ Sl (fun b => w.heap.size ≤ b) w' v f ∧ RD w' br s e' op
  | .error (p, er) => e = .panicked (faultChain p er)

theorem TreePost.err {w : World} {br : Nat} {s : ByteArray} {op i : Nat} {r : TR} {p : Nat} {er : Int} {w' : World} (hr : r = .error (p, er)) (h : Ext (· = br) w w') : TreePost w br s op i r (.panicked (faultChain p er)) w' := by
  subst hr; exact ⟨h, rfl⟩

def TreeC (s : ByteArray) (n : Nat) : Prop := ∀ (i op br : Nat) (w : World) (hi : i < s.size), s.size - i < n → op ≤ 400 → RD w br s i op →
  Calls Tryd.prog 46 #[.pointer (some ⟨br, 0, none⟩)] w (TreePost w br s op i (treeP s i op s[i]))
def RowC (s : ByteArray) (n : Nat) : Prop := ∀ (i op br : Nat) (w : World), i ≤ s.size → s.size - i < n → op ≤ 400 → RD w br s i op →
  Calls Tryd.prog 24 #[.pointer (some ⟨br, 0, none⟩)] w (RowPost w br s op (rowP s i op))

set_option maxHeartbeats 1000000 in
theorem tree_word (s : ByteArray) (hs : s.size ≤ 262144) (i op br : Nat) (w : World) (hi : i < s.size) (h : RD w br s i op) (hc : s[i] ≠ 40) :
    Calls Tryd.prog 46 #[.pointer (some ⟨br, 0, none⟩)] w (TreePost w br s op i (treeP s i op s[i])) := by
  have c0 := h.c0
  have c1 := h.c1
  have hlt := Blk.lt h
  have hcn : ((s[i].toNat : Int) == 40) = false := by
    simp only [beq_eq_false_iff_ne]
    intro e; exact hc (UInt8.toNat_inj.1 (by simpa using (by omega : s[i].toNat = 40)))
  have hcm : ((s[i].toNat : Int) != 40) = true := by simp [bne, hcn]
  have e1 : treeP s i op s[i] = if adv isSign s i = i then .error (i, 20) else .ok (s.extract i (adv isSign s i), false, .nil, adv isSign s i) := by
    unfold treeP; rw [if_pos hc]
  rw [e1]; clear e1
  have hT : Blk ((w.alloc (.cells #[.string ⟨#[]⟩, .slice none 0 0, .bool false, .int .i64 0] 35)).alloc (.cells #[.string ⟨#[]⟩, .slice none 0 0, .bool false, .int .i64 i] 35)) (w.heap.size + 1) #[.string ⟨#[]⟩, .slice none 0 0, .bool false, .int .i64 i] 35 := by
    have := Blk.new (w.alloc (.cells #[.string ⟨#[]⟩, .slice none 0 0, .bool false, .int .i64 0] 35)) #[.string ⟨#[]⟩, .slice none 0 0, .bool false, .int .i64 i] 35
    simpa using this
  by_cases hj : adv isSign s i = i
  · rw [if_pos hj]
    have HJ := Lib.hid hj
    clear hj
    go_enter Tryd.func46, Tryd.ntmps46
    go_wp2_with fail
    go_quiet (fail)
    go_wp2_with fail
    refine (while_sign br s i op _ (((Blk.alloc (Blk.alloc h _) _)).drewN _) (by omega) hs).mono ?_
    rintro e w1 ⟨rfl, hrd1, hext1⟩
    have hT1 := Blk.ext (hT.drewN _) hext1 (by omega)
    rw [HJ.out] at hrd1 ⊢
    have tc0 := hT1.cell 0
    have tf0 := hT1.frozen 0
    simp at tc0
    clear c0 c1
    have hne : (s.extract i i) = ⟨#[]⟩ := by simp; rfl
    rw [hne]
    go_wp2_with fail
    have hT2 := hT1.set 0 (.string ⟨#[]⟩)
    have hrd2 : RD (w1.setCell ⟨w.heap.size + 1, 0, none⟩ (.string ⟨#[]⟩)) br s i op := Blk.setOther hrd1 _ (by simp; omega) _
    have hext2 := (((((Ext.refl (· = br) w).alloc _).alloc _).drewN _).trans' hext1).setCell (p := ⟨w.heap.size + 1, 0, none⟩) (by intro h; simp at h; omega) (.string ⟨#[]⟩)
    generalize w1.setCell ⟨w.heap.size + 1, 0, none⟩ (.string ⟨#[]⟩) = w2 at hT2 hrd2 hext2 ⊢
    clear tc0 tf0
    have tc0 := hT2.cell 0
    simp at tc0
    refine wp_region_quiet_tail 6 (by kernel_rfl) (by kernel_rfl) ?_
    simp only [List.take_succ_cons, List.take_zero, List.drop_succ_cons, List.drop_zero]
    repeat (go_big_quiet_step (fail))
    refine wpQuiet_nil ?_
    rintro w' ⟨nq, rfl⟩
    go_wp2_with (go_at_call 25; refine (must_no br s i op 20 _ (Blk.drewN hrd2 _)).mono ?_; rintro e w3 ⟨rfl, rfl⟩)
    exact ⟨rfl, hext2.drewN _, rfl⟩
  · rw [if_neg hj]
    have hwd : ∃ wd, wd = s.extract i (adv isSign s i) := ⟨_, rfl⟩
    obtain ⟨wd, hwd⟩ := hwd
    rw [← hwd]
    have hsz : 0 < wd.size := by
      have h3 := adv_ge isSign s i
      have h4 := adv_le isSign s i (by omega)
      rw [hwd]; simp; omega
    have hne : wd.toList.isEmpty = false := by
      rw [List.isEmpty_eq_false_iff]; intro h0
      have : wd.data.toList.length = 0 := by rw [← ByteArray.toList_eq, h0]; rfl
      rw [← Lib.size_eq] at this; omega
    have HW := Lib.hid hwd
    clear hwd
    go_enter Tryd.func46, Tryd.ntmps46
    go_wp2_with fail
    go_quiet (fail)
    go_wp2_with fail
    refine (while_sign br s i op _ (((Blk.alloc (Blk.alloc h _) _)).drewN _) (by omega) hs).mono ?_
    rintro e w1 ⟨rfl, hrd1, hext1⟩
    have hT1 := Blk.ext (hT.drewN _) hext1 (by omega)
    have hO1 := Blk.ext (((Blk.new w #[.string ⟨#[]⟩, .slice none 0 0, .bool false, .int .i64 0] 35).alloc (.cells #[.string ⟨#[]⟩, .slice none 0 0, .bool false, .int .i64 i] 35)).drewN nq) hext1 (by omega)
    rw [← HW.out]
    have tc0 := hT1.cell 0
    have tf0 := hT1.frozen 0
    simp at tc0
    clear c0 c1
    go_wp2_with fail
    have hT2 := hT1.set 0 (.string wd)
    have hrd2 := Blk.setOther hrd1 ⟨w.heap.size + 1, 0, none⟩ (by simp; omega) (.string wd)
    have hO2 := Blk.setOther hO1 ⟨w.heap.size + 1, 0, none⟩ (by simp) (.string wd)
    have hext2 := (((((Ext.refl (· = br) w).alloc _).alloc _).drewN _).trans' hext1).setCell (p := ⟨w.heap.size + 1, 0, none⟩) (by intro h; simp at h; omega) (.string wd)
    generalize w1.setCell ⟨w.heap.size + 1, 0, none⟩ (.string wd) = w2 at hT2 hrd2 hext2 hO2 ⊢
    clear tc0 tf0
    have tc0 : w2.cell? ⟨w.heap.size + 1, 0, none⟩ = some (.string wd) := hT2.cell 0
    have tc1 : w2.cell? ⟨w.heap.size + 1, 1, none⟩ = some (.slice none 0 0) := hT2.cell 1
    have tc2 : w2.cell? ⟨w.heap.size + 1, 2, none⟩ = some (.bool false) := hT2.cell 2
    have tc3 : w2.cell? ⟨w.heap.size + 1, 3, none⟩ = some (.int .i64 i) := hT2.cell 3
    have oc0 : w2.cell? ⟨w.heap.size, 0, none⟩ = some (.string ⟨#[]⟩) := hO2.cell 0
    have oc1 : w2.cell? ⟨w.heap.size, 1, none⟩ = some (.slice none 0 0) := hO2.cell 1
    have oc2 : w2.cell? ⟨w.heap.size, 2, none⟩ = some (.bool false) := hO2.cell 2
    have oc3 : w2.cell? ⟨w.heap.size, 3, none⟩ = some (.int .i64 0) := hO2.cell 3
    have of0 := hO2.frozen 0
    have of1 := hO2.frozen 1
    have of2 := hO2.frozen 2
    have of3 := hO2.frozen 3
    refine wp_region_quiet_tail 6 (by kernel_rfl) (by kernel_rfl) ?_
    simp only [List.take_succ_cons, List.take_zero, List.drop_succ_cons, List.drop_zero]
    repeat (go_big_quiet_step (fail))
    refine wpQuiet_nil ?_
    rintro w' ⟨nq, rfl⟩
    go_wp2_with (go_at_call 25; refine (must_yes br 20 _).mono ?_; rintro e w3 ⟨rfl, rfl⟩)
    refine bodyPost_ret (v := .agg #[.string wd, .slice none 0 0, .bool false, .int .i64 i]) (by simp [results, Tryd.results46, go_sem, *]) rfl ⟨?_, none, 0, 0, rfl, Sl.nil _ _, ?_⟩
    · exact ((((hext2.drewN _).setCell (by simp) _).setCell (by simp) _).setCell (by simp) _).setCell (by simp) _
    · exact Blk.setOther (Blk.setOther (Blk.setOther (Blk.setOther (Blk.drewN hrd2 _) _ (by simp; omega) _) _ (by simp; omega) _) _ (by simp; omega) _) _ (by simp; omega) _

set_option maxRecDepth 100000 in
set_option maxHeartbeats 2000000 in
theorem tree_row (s : ByteArray) (hs : s.size ≤ 262144) (n : Nat) (HR : RowC s n) (i op br : Nat) (w : World) (hi : i < s.size) (hn : s.size - i < n + 1) (hop : op ≤ 400) (h : RD w br s i op) (hc : s[i] = 40) :
    Calls Tryd.prog 46 #[.pointer (some ⟨br, 0, none⟩)] w (TreePost w br s op i (treeP s i op s[i])) := by
  have c0 := h.c0
  have c1 := h.c1
  have c2 := h.c2
  have hlt := Blk.lt h
  have hcn : ((s[i].toNat : Int) == 40) = true := by rw [hc]; rfl
  have hcm : ((s[i].toNat : Int) != 40) = false := by simp [bne, hcn]
  have e1 : treeP s i op s[i] = if ¬ op < 400 then .error (i, 3) else match rowP s (i + 1) (op + 1) with
      | .error x => .error x
      | .ok (f, e) => if ¬ e < s.size then .error (e, 20) else .ok (ByteArray.empty, true, f, e + 1) := by
    unfold treeP; rw [if_neg (by rw [hc]; decide)]
  generalize treeP s i op s[i] = tr at e1
  have HTR := Lib.hid e1
  clear e1
  have hT : Blk ((w.alloc (.cells #[.string ⟨#[]⟩, .slice none 0 0, .bool false, .int .i64 0] 35)).alloc (.cells #[.string ⟨#[]⟩, .slice none 0 0, .bool false, .int .i64 i] 35)) (w.heap.size + 1) #[.string ⟨#[]⟩, .slice none 0 0, .bool false, .int .i64 i] 35 := by
    have := Blk.new (w.alloc (.cells #[.string ⟨#[]⟩, .slice none 0 0, .bool false, .int .i64 0] 35)) #[.string ⟨#[]⟩, .slice none 0 0, .bool false, .int .i64 i] 35
    simpa using this
  have hO := (Blk.new w #[.string ⟨#[]⟩, .slice none 0 0, .bool false, .int .i64 0] 35).alloc (.cells #[.string ⟨#[]⟩, .slice none 0 0, .bool false, .int .i64 i] 35)
  have hR := Blk.alloc (Blk.alloc h (.cells #[.string ⟨#[]⟩, .slice none 0 0, .bool false, .int .i64 0] 35)) (.cells #[.string ⟨#[]⟩, .slice none 0 0, .bool false, .int .i64 i] 35)
  have hX := ((Ext.refl (· = br) w).alloc (.cells #[.string ⟨#[]⟩, .slice none 0 0, .bool false, .int .i64 0] 35)).alloc (.cells #[.string ⟨#[]⟩, .slice none 0 0, .bool false, .int .i64 i] 35)
  have hc0 : (40 : UInt8).toNat = 40 := rfl
  by_cases hlo : op < 400
  · have hbo : decide ((op : Int) < 400) = true := by simp; omega
    go_enter Tryd.func46, Tryd.ntmps46
    go_wp2_with fail
    go_quiet (fail)
    go_wp2_with fail
    refine wp_region_quiet_tail 8 (by kernel_rfl) (by kernel_rfl) ?_
    simp only [List.take_succ_cons, List.take_zero, List.drop_succ_cons, List.drop_zero]
    repeat (go_big_quiet_step (fail))
    refine wpQuiet_nil ?_
    rintro w' ⟨nq, rfl⟩
    go_wp2_with fail
    refine (must_yes br 3 _).mono ?_
    rintro e w3 ⟨rfl, hw3⟩
    have hR3 : RD w3 br s i op := by rw [← hw3]; exact hR
    have hT3 : Blk w3 (w.heap.size + 1) #[.string ⟨#[]⟩, .slice none 0 0, .bool false, .int .i64 i] 35 := by rw [← hw3]; exact hT
    have hO3 : Blk w3 w.heap.size #[.string ⟨#[]⟩, .slice none 0 0, .bool false, .int .i64 0] 35 := by rw [← hw3]; exact hO
    have hX3 : Ext (· = br) w w3 := by rw [← hw3]; first | exact hX.drewN _ | exact (hX.drewN _).drewN _
    clear hw3 hR hT hO hX c0 c1 c2
    have c1 := hR3.c1
    have c2 := hR3.c2
    have f1 := Blk.frozen hR3 1
    have f2 := Blk.frozen hR3 2
    go_wp2_with fail
    have hR4 := RD.at (RD.open hR3 ((op : Int) + 1) (op + 1) (by simp)) ((i : Int) + 1) (i + 1) (by simp)
    have hT4 := Blk.setOther (Blk.setOther hT3 ⟨br, 2, none⟩ (by simp; omega) (.int .i64 ((op : Int) + 1))) ⟨br, 1, none⟩ (by simp; omega) (.int .i64 ((i : Int) + 1))
    have hO4 := Blk.setOther (Blk.setOther hO3 ⟨br, 2, none⟩ (by simp; omega) (.int .i64 ((op : Int) + 1))) ⟨br, 1, none⟩ (by simp; omega) (.int .i64 ((i : Int) + 1))
    have hX4 := (hX3.setCell (p := ⟨br, 2, none⟩) (fun _ => rfl) (.int .i64 ((op : Int) + 1))).setCell (p := ⟨br, 1, none⟩) (fun _ => rfl) (.int .i64 ((i : Int) + 1))
    generalize (w3.setCell ⟨br, 2, none⟩ (.int .i64 ((op : Int) + 1))).setCell ⟨br, 1, none⟩ (.int .i64 ((i : Int) + 1)) = w4 at hR4 hT4 hO4 hX4 ⊢
    clear c1 c2 f1 f2 hR3 hT3 hO3 hX3
    cases hr : rowP s (i + 1) (op + 1) with
    | error x =>
      obtain ⟨p, er⟩ := x
      have HC := HR (i + 1) (op + 1) br w4 (by omega) (by omega) (by omega) hR4
      rw [hr] at HC
      refine HC.mono ?_
      rintro e w5 ⟨hx5, rfl⟩
      have et : tr = .error (p, er) := by rw [HTR.out, if_neg (by omega)]; simp only [hr]
      rw [et]
      exact ⟨rfl, hX4.trans' hx5, rfl⟩
    | ok x =>
      obtain ⟨f, e'⟩ := x
      have hend := rowP_end (by omega) hr
      have HC := HR (i + 1) (op + 1) br w4 (by omega) (by omega) (by omega) hR4
      rw [hr] at HC
      refine HC.mono ?_
      rintro e w5 ⟨hx5, v, he, hsl, hR5⟩
      clear HC HR
      have HE := Lib.hid hr
      clear hr
      obtain ⟨a, cap, rfl, hcp1, hcp2⟩ := hsl.shape
      subst he
      have hT5 := hT4.ext hx5 (by omega)
      have hO5 := hO4.ext hx5 (by omega)
      have hX5 := hX4.trans' hx5
      have hlt4 := hT4.lt
      clear hx5 hX4 hT4 hO4 hR4
      have tc1 : w5.cell? ⟨w.heap.size + 1, 1, none⟩ = some (.slice none 0 0) := hT5.cell 1
      have tc2 : w5.cell? ⟨w.heap.size + 1, 2, none⟩ = some (.bool false) := hT5.cell 2
      have tf1 := hT5.frozen 1
      have tf2 := hT5.frozen 2
      go_wp2_with fail
      have hT6 := (hT5.set 2 (.bool true)).set 1 (.slice a f.len cap)
      have hR6 := Blk.setOther (Blk.setOther hR5 ⟨w.heap.size + 1, 2, none⟩ (by simp; omega) (.bool true)) ⟨w.heap.size + 1, 1, none⟩ (by simp; omega) (.slice a f.len cap)
      have hO6 := Blk.setOther (Blk.setOther hO5 ⟨w.heap.size + 1, 2, none⟩ (by simp) (.bool true)) ⟨w.heap.size + 1, 1, none⟩ (by simp) (.slice a f.len cap)
      have hX6 := (hX5.setCell (p := ⟨w.heap.size + 1, 2, none⟩) (by intro h; simp at h; omega) (.bool true)).setCell (p := ⟨w.heap.size + 1, 1, none⟩) (by intro h; simp at h; omega) (.slice a f.len cap)
      have hS6 : Sl (fun b => w.heap.size ≤ b ∧ b ≠ w.heap.size) ((w5.setCell ⟨w.heap.size + 1, 2, none⟩ (.bool true)).setCell ⟨w.heap.size + 1, 1, none⟩ (.slice a f.len cap)) (.slice a f.len cap) f :=
        hsl.move (fun b hb _ => by rw [Below.heap_setCell _ _ _ _ (by simp; omega), Below.heap_setCell _ _ _ _ (by simp; omega)]) (fun b hb _ => ⟨by omega, by omega⟩)
      generalize (w5.setCell ⟨w.heap.size + 1, 2, none⟩ (.bool true)).setCell ⟨w.heap.size + 1, 1, none⟩ (.slice a f.len cap) = w6 at hT6 hR6 hO6 hX6 hS6 ⊢
      clear tc1 tc2 tf1 tf2 hT5 hO5 hR5 hX5 hsl
      by_cases hlt6 : e' < s.size
      · refine wp_region_quiet_tail 7 (by kernel_rfl) (by kernel_rfl) ?_
        simp only [List.take_succ_cons, List.take_zero, List.drop_succ_cons, List.drop_zero]
        repeat (go_big_quiet_step ((go_at_call 26; refine Calls.quiet_of (more_yes br s e' (op + 1) _ (by exact hR6) hlt6))))
        refine wpQuiet_nil ?_
        rintro w' ⟨nq, rfl⟩
        go_wp2_with fail
        refine (must_yes br 20 _).mono ?_
        rintro e w7 ⟨rfl, hw7⟩
        have hR7 : RD w7 br s e' (op + 1) := by rw [← hw7]; exact hR6
        have hT7 : Blk w7 (w.heap.size + 1) #[.string ⟨#[]⟩, .slice a f.len cap, .bool true, .int .i64 i] 35 := by rw [← hw7]; exact hT6
        have hO7 : Blk w7 w.heap.size #[.string ⟨#[]⟩, .slice none 0 0, .bool false, .int .i64 0] 35 := by rw [← hw7]; exact hO6
        have hX7 : Ext (· = br) w w7 := by rw [← hw7]; exact hX6.drewN _
        have hS7 : Sl (fun b => w.heap.size ≤ b ∧ b ≠ w.heap.size) w7 (.slice a f.len cap) f := by rw [← hw7]; exact hS6.ext (ext_drewN w6 nq (fun _ => False)) (fun _ _ h => h)
        clear hw7 hR6 hT6 hO6 hX6 hS6
        have c1 := hR7.c1
        have c2 := hR7.c2
        have f1 := Blk.frozen hR7 1
        have f2 := Blk.frozen hR7 2
        have tc0 : w7.cell? ⟨w.heap.size + 1, 0, none⟩ = some (.string ⟨#[]⟩) := hT7.cell 0
        have tc1 : w7.cell? ⟨w.heap.size + 1, 1, none⟩ = some (.slice a f.len cap) := hT7.cell 1
        have tc2 : w7.cell? ⟨w.heap.size + 1, 2, none⟩ = some (.bool true) := hT7.cell 2
        have tc3 : w7.cell? ⟨w.heap.size + 1, 3, none⟩ = some (.int .i64 i) := hT7.cell 3
        have oc0 : w7.cell? ⟨w.heap.size, 0, none⟩ = some (.string ⟨#[]⟩) := hO7.cell 0
        have oc1 : w7.cell? ⟨w.heap.size, 1, none⟩ = some (.slice none 0 0) := hO7.cell 1
        have oc2 : w7.cell? ⟨w.heap.size, 2, none⟩ = some (.bool false) := hO7.cell 2
        have oc3 : w7.cell? ⟨w.heap.size, 3, none⟩ = some (.int .i64 0) := hO7.cell 3
        have of0 := hO7.frozen 0
        have of1 := hO7.frozen 1
        have of2 := hO7.frozen 2
        have of3 := hO7.frozen 3
        have hb1 : ¬ br = w.heap.size := by omega
        have hb2 : ¬ br = w.heap.size + 1 := by omega
        have hb3 : ¬ w.heap.size = br := by omega
        have hb4 : ¬ w.heap.size + 1 = br := by omega
        go_wp2_with fail
        have et : tr = .ok (ByteArray.empty, true, f, e' + 1) := by rw [HTR.out, if_neg (by omega)]; simp only [HE.out]; rw [if_neg (by omega)]
        rw [et]
        refine bodyPost_ret (v := .agg #[.string ⟨#[]⟩, .slice a f.len cap, .bool true, .int .i64 i]) (by simp [results, Tryd.results46, go_sem, *]) rfl ⟨?_, a, f.len, cap, rfl, ?_, ?_⟩
        · exact (((((hX7.setCell (fun _ => rfl) _).setCell (fun _ => rfl) _).setCell (by simp) _).setCell (by simp) _).setCell (by simp) _).setCell (by simp) _
        · refine hS7.move (fun b hb _ => ?_) (fun b hb _ => hb.1)
          have g1 := hb.1
          have g2 := hb.2
          rw [Below.heap_setCell _ _ _ _ (by simp; omega), Below.heap_setCell _ _ _ _ (by simp; omega), Below.heap_setCell _ _ _ _ (by simp; omega), Below.heap_setCell _ _ _ _ (by simp; omega), Below.heap_setCell _ _ _ _ (by simp; omega), Below.heap_setCell _ _ _ _ (by simp; omega)]
        · exact Blk.setOther (Blk.setOther (Blk.setOther (Blk.setOther (RD.at (RD.open hR7 _ op (by simp)) _ (e' + 1) (by simp)) _ (by simp; omega) _) _ (by simp; omega) _) _ (by simp; omega) _) _ (by simp; omega) _
      · have hge : e' = s.size := by omega
        refine wp_region_quiet_tail 7 (by kernel_rfl) (by kernel_rfl) ?_
        simp only [List.take_succ_cons, List.take_zero, List.drop_succ_cons, List.drop_zero]
        repeat (go_big_quiet_step ((go_at_call 26; refine Calls.quiet_of (more_no br s e' (op + 1) _ (by exact hR6) (by omega)))))
        refine wpQuiet_nil ?_
        rintro w' ⟨nq, rfl⟩
        go_wp2_with fail
        refine (must_no br s e' (op + 1) 20 _ (by exact hR6)).mono ?_
        rintro e w7 ⟨rfl, rfl⟩
        have et : tr = .error (e', 20) := by rw [HTR.out, if_neg (by omega)]; simp only [HE.out]; rw [if_pos hlt6]
        rw [et]
        exact ⟨rfl, hX6.drewN _, rfl⟩
  · have hbo : decide ((op : Int) < 400) = false := by simp; omega
    go_enter Tryd.func46, Tryd.ntmps46
    go_wp2_with fail
    go_quiet (fail)
    go_wp2_with fail
    refine wp_region_quiet_tail 8 (by kernel_rfl) (by kernel_rfl) ?_
    simp only [List.take_succ_cons, List.take_zero, List.drop_succ_cons, List.drop_zero]
    repeat (go_big_quiet_step (fail))
    refine wpQuiet_nil ?_
    rintro w' ⟨nq, rfl⟩
    go_wp2_with (go_at_call 25; refine (must_no br s i op 3 _ (by exact hR)).mono ?_; rintro e w3 ⟨rfl, rfl⟩)
    have et : tr = .error (i, 3) := by rw [HTR.out, if_pos hlo]
    rw [et]
    exact ⟨rfl, by first | exact hX.drewN _ | exact (hX.drewN _).drewN _, rfl⟩

theorem tree_of_row (s : ByteArray) (hs : s.size ≤ 262144) (n : Nat) (HR : RowC s n) : TreeC s (n + 1) := by
  intro i op br w hi hn hop h
  by_cases hc : s[i] = 40
  · exact tree_row s hs n HR i op br w hi hn hop h hc
  · exact tree_word s hs i op br w hi h hc

end Go.Proofs.YthiaikbdghmnbaaDoor
