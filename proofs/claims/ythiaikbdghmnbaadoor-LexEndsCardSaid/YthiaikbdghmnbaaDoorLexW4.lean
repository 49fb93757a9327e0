/- Walks: lex.Parse: its deferred closure, and itself. -/
import Derived.Test.YthiaikbdghmnbaaDoorLexW3
import Derived.BigRegion
namespace Go.Proofs.YthiaikbdghmnbaaDoor
open Go.RowKit

theorem assert_fault (v : Value) (w : World) : (Instr.typeAssert (.iface 59 v) 20 59 true).run Tryd.prog w = .ok (.tuple #[v, .bool true]) w := by kernel_rfl

def CatchQ (b2 b3 b4 : Nat) (t2 t3 t4 : Nat) (at_ er : Int) (w : World) (e : Exit) (a : Act) (w' : World) : Prop :=
  (e = .normal ∨ e = .ret) ∧ a.defers = [] ∧ Ext (fun b => b = b2 ∨ b = b3 ∨ b = b4) w w' ∧ Blk w' b2 #[.slice none 0 0] t2 ∧ Blk w' b3 #[.int .i64 at_] t3 ∧ Blk w' b4 #[.int .i64 er] t4

set_option maxHeartbeats 1000000 in
theorem catch_fault (b2 b3 b4 : Nat) (x2 x3 x4 : Value) (t2 t3 t4 : Nat) (at_ er : Int) (w : World) (h2 : Blk w b2 #[x2] t2) (h3 : Blk w b3 #[x3] t3) (h4 : Blk w b4 #[x4] t4) (h23 : b2 ≠ b3) (h24 : b2 ≠ b4) (h34 : b3 ≠ b4) :
    CallsD Tryd.prog 23 #[.pointer (some ⟨b2, 0, none⟩), .pointer (some ⟨b3, 0, none⟩), .pointer (some ⟨b4, 0, none⟩)] (.panicking ({ v := .iface 59 (.agg #[.int .i64 at_, .int .i64 er]), recovered := false } :: [])) w fun e u' w' =>
      e = .returned (.tuple #[]) ∧ u' = .panicking ({ v := .iface 59 (.agg #[.int .i64 at_, .int .i64 er]), recovered := true } :: []) ∧
      Ext (fun b => b = b2 ∨ b = b3 ∨ b = b4) w w' ∧ Blk w' b2 #[.slice none 0 0] t2 ∧ Blk w' b3 #[.int .i64 at_] t3 ∧ Blk w' b4 #[.int .i64 er] t4 := by
  refine callsD_of_wpS Tryd.func23 rfl fun c₀ cs hu => ?_
  apply wpS_seq
  apply wpS_region
  simp [wpOpsS, go_sem, recoverD, hu, Tryd.ntmps23, Exit.thenS]
  refine wpS_of_wp ?_
  refine Code.wp_mono (Q := CatchQ b2 b3 b4 t2 t3 t4 at_ er w) ?_ ?_
  · rintro e a w' ⟨he, hd, hq⟩
    rcases he with rfl | rfl
    · simp [bodyPostS, results, hd]
      exact hq
    · simp [bodyPostS, results, hd]
      exact hq
  have c2 := h2.cell 0
  have c3 := h3.cell 0
  have c4 := h4.cell 0
  have f2 := h2.frozen 0
  have f3 := h3.frozen 0
  have f4 := h4.frozen 0
  simp at c2 c3 c4
  clear hu
  have hta := assert_fault
  simp only [Array.replicate_succ, Array.replicate_zero, List.push_toArray, List.append_toArray, List.nil_append, List.cons_append, List.setIfInBounds_toArray, List.set_cons_succ, List.set_cons_zero]
  go_wp2_with fail
  have hb2 := h2.lt
  have hb3 := h3.lt
  have hb4 := h4.lt
  go_region
  refine ⟨.inl rfl, rfl, ?_, ?_, ?_, ?_⟩
  · exact ((((Ext.refl (fun b => b = b2 ∨ b = b3 ∨ b = b4) w).setCell (fun _ => .inl rfl) _).setCell (fun _ => .inr (.inl rfl)) _).setCell (fun _ => .inr (.inr rfl)) _).alloc _ |>.drew
  · exact ((((h2.set 0 _).setOther _ (by simp; omega) _).setOther _ (by simp; omega) _).alloc _).drew
  · exact ((((h3.setOther _ (by simp; omega) _).set 0 _).setOther _ (by simp; omega) _).alloc _).drew
  · exact ((((h4.setOther _ (by simp; omega) _).setOther _ (by simp; omega) _).set 0 _).alloc _).drew

theorem catch_idle (p2 p3 p4 : Value) (w : World) :
    CallsD Tryd.prog 23 #[p2, p3, p4] .returning w fun e u' w' => e = .returned (.tuple #[]) ∧ u' = .returning ∧ w' = w := by
  refine callsD_of_wpS Tryd.func23 rfl fun c₀ cs hu => ?_
  apply wpS_seq
  apply wpS_region
  simp [wpOpsS, go_sem, recoverD, hu, Tryd.ntmps23, Exit.thenS]
  apply wpS_seq
  apply wpS_region
  simp [wpOpsS, go_sem, Exit.thenS]
  refine wpS_cond (t := false) (by simp [Act.eval, Array.replicate]) ?_
  simp only [Bool.false_eq_true, if_false]
  refine wpS_of_wp (wp_skip ?_)
  cases c₀
  simp_all [bodyPostS, results]

/-- What Parse hands back. -/
def ParsePost (w : World) (r : F × Nat × Int) (e : Ending) (w' : World) : Prop :=
  Ext (fun _ => False) w w' ∧ ∃ v, e = .returned (.tuple #[v, .int .i64 r.2.1, .int .i64 r.2.2]) ∧ Sl (fun b => w.heap.size ≤ b) w' v r.1

set_option maxHeartbeats 1000000 in
theorem parse_long (s : ByteArray) (w : World) (hs : 262144 < s.size) (hm : s.size ≤ maxLen) :
    Calls Tryd.prog 7 #[.string s] w (ParsePost w (parseS s)) := by
  have hp : parseS s = (.nil, 0, 3) := by unfold parseS; rw [if_pos hs]
  rw [hp]
  unfold maxLen at hm
  have hmf : ∀ (fn : Fn) (first cap : Array Value) (w : World), (Instr.makeFunc fn first cap).run Tryd.prog w = .ok (.func fn first cap) w := fun _ _ _ _ => rfl
  go_enter_defers Tryd.func7, Tryd.ntmps7
  go_wp2_with fail
  refine ⟨.tuple #[.slice none 0 0, .int .i64 0, .int .i64 3], by simp [results, Tryd.results7, go_sem], ?_, _, rfl, Sl.nil _ _⟩
  exact (((Ext.refl _ w).alloc _).alloc _).alloc _

set_option maxHeartbeats 2000000 in
theorem parse_short (s : ByteArray) (w : World) (hs : s.size ≤ 262144) :
    Calls Tryd.prog 7 #[.string s] w (ParsePost w (parseS s)) := by
  have hsz : ¬ (262144 : Int) < (s.size : Int) := by omega
  have hsd : decide ((262144 : Int) < (s.size : Int)) = false := by simp; omega
  generalize hpp : parseS s = pp
  have HP := Lib.hid hpp
  clear hpp
  have hmf : ∀ (fn : Fn) (first cap : Array Value) (w : World), (Instr.makeFunc fn first cap).run Tryd.prog w = .ok (.func fn first cap) w := fun _ _ _ _ => rfl
  have H2 : Blk ((((w.alloc (.cells #[.slice none 0 0] 27)).alloc (.cells #[.int .i64 0] 3)).alloc (.cells #[.int .i64 0] 28)).alloc (.cells #[.string s, .int .i64 0, .int .i64 0] 65)) w.heap.size #[.slice none 0 0] 27 :=
    (((Blk.new w _ _).alloc _).alloc _).alloc _
  have H3 : Blk ((((w.alloc (.cells #[.slice none 0 0] 27)).alloc (.cells #[.int .i64 0] 3)).alloc (.cells #[.int .i64 0] 28)).alloc (.cells #[.string s, .int .i64 0, .int .i64 0] 65)) (w.heap.size + 1) #[.int .i64 0] 3 := by
    have := ((Blk.new (w.alloc (.cells #[.slice none 0 0] 27)) #[.int .i64 0] 3).alloc (.cells #[.int .i64 0] 28)).alloc (.cells #[.string s, .int .i64 0, .int .i64 0] 65)
    simpa using this
  have H4 : Blk ((((w.alloc (.cells #[.slice none 0 0] 27)).alloc (.cells #[.int .i64 0] 3)).alloc (.cells #[.int .i64 0] 28)).alloc (.cells #[.string s, .int .i64 0, .int .i64 0] 65)) (w.heap.size + 1 + 1) #[.int .i64 0] 28 := by
    have := (Blk.new ((w.alloc (.cells #[.slice none 0 0] 27)).alloc (.cells #[.int .i64 0] 3)) #[.int .i64 0] 28).alloc (.cells #[.string s, .int .i64 0, .int .i64 0] 65)
    simpa using this
  have HR : RD ((((w.alloc (.cells #[.slice none 0 0] 27)).alloc (.cells #[.int .i64 0] 3)).alloc (.cells #[.int .i64 0] 28)).alloc (.cells #[.string s, .int .i64 0, .int .i64 0] 65)) (w.heap.size + 1 + 1 + 1) s 0 0 := by
    have := Blk.new (((w.alloc (.cells #[.slice none 0 0] 27)).alloc (.cells #[.int .i64 0] 3)).alloc (.cells #[.int .i64 0] 28)) #[.string s, .int .i64 0, .int .i64 0] 65
    simpa [RD] using this
  have HX := ((((Ext.refl (fun _ => False) w).alloc (.cells #[.slice none 0 0] 27)).alloc (.cells #[.int .i64 0] 3)).alloc (.cells #[.int .i64 0] 28)).alloc (.cells #[.string s, .int .i64 0, .int .i64 0] 65)
  go_enter_defers Tryd.func7, Tryd.ntmps7
  go_wp2_with fail
  generalize (((w.alloc (.cells #[.slice none 0 0] 27)).alloc (.cells #[.int .i64 0] 3)).alloc (.cells #[.int .i64 0] 28)).alloc (.cells #[.string s, .int .i64 0, .int .i64 0] 65) = w1 at H2 H3 H4 HR HX ⊢
  clear hsz hsd
  have HC := row_any s hs 0 0 _ _ (by omega) (by omega) HR
  cases hr : rowP s 0 0 with
  | error x =>
    obtain ⟨p, er⟩ := x
    rw [hr] at HC
    refine HC.mono ?_
    rintro e w2 ⟨hx2, rfl⟩
    have ep : pp = (.nil, p, er) := by rw [← HP.out]; unfold parseS; rw [if_neg (by omega)]; simp only [hr]
    rw [ep]
    refine leaves_cons (f := 23) (args := #[.pointer (some ⟨w.heap.size, 0, none⟩), .pointer (some ⟨w.heap.size + 1, 0, none⟩), .pointer (some ⟨w.heap.size + 1 + 1, 0, none⟩)]) (by simp [faultChain]) (by simp [go_sem]) ?_
    refine (catch_fault _ _ _ _ _ _ _ _ _ p er _ (H2.ext hx2 (by omega)) (H3.ext hx2 (by omega)) (H4.ext hx2 (by omega)) (by omega) (by omega) (by omega)).mono ?_
    rintro e u' w3 ⟨rfl, rfl, hx3, g2, g3, g4⟩
    have c2 := g2.cell 0
    have c3 := g3.cell 0
    have c4 := g4.cell 0
    simp at c2 c3 c4
    refine ⟨.tuple #[.slice none 0 0, .int .i64 p, .int .i64 er], by simp [results, Tryd.results7, go_sem, c2, c3, c4], ?_, _, rfl, Sl.nil _ _⟩
    exact (HX.trans hx2 (fun i hi hM => by omega)).trans hx3 (fun i hi hM => by rcases hM with h | h | h <;> omega)
  | ok x =>
    obtain ⟨f, e'⟩ := x
    have hend := rowP_end (by omega) hr
    rw [hr] at HC
    refine HC.mono ?_
    rintro e w2 ⟨hx2, v, rfl, hsl, hR2⟩
    obtain ⟨a, cap, rfl, _, _⟩ := hsl.shape
    have hl1 := HX.size
    have hl2 := H4.lt
    have hl3 := Blk.lt HR
    replace H2 := H2.ext hx2 (by omega)
    replace H3 := H3.ext hx2 (by omega)
    replace H4 := H4.ext hx2 (by omega)
    replace HX := HX.trans hx2 (fun i hi hM => by omega)
    clear HC HR hx2
    have c2 := H2.cell 0
    have f2 := H2.frozen 0
    simp at c2
    have HE := Lib.hid hr
    clear hr
    go_wp2_with fail
    have hsl3 : Sl (fun b => w.heap.size + 1 + 1 < b) (w2.setCell ⟨w.heap.size, 0, none⟩ (.slice a f.len cap)) (.slice a f.len cap) f :=
      hsl.move (fun b hb _ => by rw [Below.heap_setCell _ _ _ _ (by simp; omega)]) (fun b hb _ => by omega)
    replace H2 := H2.set 0 (.slice a f.len cap)
    replace H3 := H3.setOther ⟨w.heap.size, 0, none⟩ (by simp) (.slice a f.len cap)
    replace H4 := H4.setOther ⟨w.heap.size, 0, none⟩ (by simp; omega) (.slice a f.len cap)
    replace HX := HX.setCell (p := ⟨w.heap.size, 0, none⟩) (by simp) (.slice a f.len cap)
    replace hR2 := Blk.setOther hR2 ⟨w.heap.size, 0, none⟩ (by simp; omega) (.slice a f.len cap)
    generalize w2.setCell ⟨w.heap.size, 0, none⟩ (.slice a f.len cap) = w3 at H2 H3 H4 HX hR2 hsl3 ⊢
    clear c2 f2 hsl
    by_cases hlt : e' < s.size
    · refine wp_region_quiet_tail 8 (by kernel_rfl) (by kernel_rfl) ?_
      simp only [List.take_succ_cons, List.take_zero, List.drop_succ_cons, List.drop_zero]
      repeat (go_big_quiet_step ((go_at_call 26; refine Calls.quiet_of (more_yes _ s e' 0 _ (by exact hR2) hlt))))
      refine wpQuiet_nil ?_
      rintro w' ⟨nq, rfl⟩
      go_wp2_with fail
      refine (must_no _ s e' 0 20 _ (by exact hR2)).mono ?_
      rintro e w4 ⟨rfl, rfl⟩
      have ep : pp = (.nil, e', 20) := by rw [← HP.out]; unfold parseS; rw [if_neg (by omega)]; simp only [HE.out]; rw [if_pos hlt]
      rw [ep]
      refine leaves_cons (f := 23) (args := #[.pointer (some ⟨w.heap.size, 0, none⟩), .pointer (some ⟨w.heap.size + 1, 0, none⟩), .pointer (some ⟨w.heap.size + 1 + 1, 0, none⟩)]) (by simp [faultChain]) (by simp [go_sem]) ?_
      refine (catch_fault _ _ _ _ _ _ _ _ _ e' 20 _ (H2.drewN _) (H3.drewN _) (H4.drewN _) (by omega) (by omega) (by omega)).mono ?_
      rintro e u' w5 ⟨rfl, rfl, hx5, g2, g3, g4⟩
      have c2 := g2.cell 0
      have c3 := g3.cell 0
      have c4 := g4.cell 0
      simp at c2 c3 c4
      refine ⟨.tuple #[.slice none 0 0, .int .i64 e', .int .i64 20], by simp [results, Tryd.results7, go_sem, c2, c3, c4], ?_, _, rfl, Sl.nil _ _⟩
      exact (HX.drewN _).trans hx5 (fun i hi hM => by rcases hM with h | h | h <;> omega)
    · refine wp_region_quiet_tail 8 (by kernel_rfl) (by kernel_rfl) ?_
      simp only [List.take_succ_cons, List.take_zero, List.drop_succ_cons, List.drop_zero]
      repeat (go_big_quiet_step ((go_at_call 26; refine Calls.quiet_of (more_no _ s e' 0 _ (by exact hR2) (by omega)))))
      refine wpQuiet_nil ?_
      rintro w' ⟨nq, rfl⟩
      go_wp2_with fail
      refine (must_yes _ 20 _).mono ?_
      rintro e w4 ⟨rfl, hw4⟩
      replace H2 : Blk w4 w.heap.size #[.slice a f.len cap] 27 := by rw [← hw4]; exact H2
      replace H3 : Blk w4 (w.heap.size + 1) #[.int .i64 0] 3 := by rw [← hw4]; exact H3
      replace H4 : Blk w4 (w.heap.size + 1 + 1) #[.int .i64 0] 28 := by rw [← hw4]; exact H4
      replace HX : Ext (fun _ => False) w w4 := by rw [← hw4]; exact HX.drewN _
      replace hsl3 : Sl (fun b => w.heap.size + 1 + 1 < b) w4 (.slice a f.len cap) f := by rw [← hw4]; exact hsl3.drewN _
      clear hw4 hR2
      have c2 := H2.cell 0
      have c3 := H3.cell 0
      have c4 := H4.cell 0
      have f2 := H2.frozen 0
      have f3 := H3.frozen 0
      have f4 := H4.frozen 0
      simp at c2 c3 c4
      go_wp2_with fail
      have ep : pp = (f, 0, 0) := by rw [← HP.out]; unfold parseS; rw [if_neg (by omega)]; simp only [HE.out]; rw [if_neg hlt]
      rw [ep]
      refine leaves_cons (f := 23) (args := #[.pointer (some ⟨w.heap.size, 0, none⟩), .pointer (some ⟨w.heap.size + 1, 0, none⟩), .pointer (some ⟨w.heap.size + 1 + 1, 0, none⟩)]) (by simp) (by simp [go_sem]) ?_
      refine (catch_idle _ _ _ _).mono ?_
      rintro e u' w5 ⟨rfl, rfl, rfl⟩
      refine ⟨.tuple #[.slice a f.len cap, .int .i64 0, .int .i64 0], by simp [results, Tryd.results7, go_sem, c2, c3, c4], ?_, _, rfl, ?_⟩
      · exact ((HX.setCell (by simp) _).setCell (by simp) _).setCell (by simp; omega) _
      · refine hsl3.move (fun b hb _ => ?_) (fun b hb _ => by omega)
        rw [Below.heap_setCell _ _ _ _ (by simp; omega), Below.heap_setCell _ _ _ _ (by simp; omega), Below.heap_setCell _ _ _ _ (by simp; omega)]

theorem parse_any (s : ByteArray) (w : World) (hm : s.size ≤ maxLen) : Calls Tryd.prog 7 #[.string s] w (ParsePost w (parseS s)) := by
  by_cases h : 262144 < s.size
  · exact parse_long s w h hm
  · exact parse_short s w (by omega)

end Go.Proofs.YthiaikbdghmnbaaDoor
