/- The memory of the reference's reader: one row more. -/
import Derived.Test.YthiaikbdghmnbaaDoorRefClose
namespace Go.Proofs.YthiaikbdghmnbaaDoor
open Go.RowKit

theorem Stk.push {w w' : World} {base br : Nat} {st : List (F × Nat)} {lv bv lv' bv' : Value} {vs : List Value} {i : Nat} (h : Stk w base br st lv bv vs)
    (hx : Ext (fun c => c = br ∨ lv.ownBlock = some c ∨ bv.ownBlock = some c) w w') (hb : Blk w' br #[lv', bv'] 79)
    (hl : w'.ownsRow base 37 1 lv' (vs.length + 1) (vs.reverse ++ [.slice none 0 0]))
    (hbw : w'.ownsRow base 3 1 bv' (st.length + 1) ((st.map fun x => Value.int .i64 x.2).reverse ++ [.int .i64 i]))
    (hnl : ∀ c, lv'.ownBlock = some c → lv.ownBlock = some c ∨ w.heap.size ≤ c) (hnb : ∀ c, bv'.ownBlock = some c → bv.ownBlock = some c ∨ w.heap.size ≤ c)
    (hne : ∀ c, lv'.ownBlock = some c → bv'.ownBlock ≠ some c) : Stk w' base br ((.nil, i) :: st) lv' bv' (.slice none 0 0 :: vs) := by
  have abr := h.abr
  have ap := h.apart
  simp only [List.pairwise_cons] at ap
  obtain ⟨ap1, ap2, ap3⟩ := ap
  have hlt := h.rows.lt
  have hbr := h.blk.lt
  have hD : ∀ c, Free base br (lv :: bv :: vs) c → c < w.heap.size → ¬ (c = br ∨ lv.ownBlock = some c ∨ bv.ownBlock = some c) := fun c hc _ h => by
    rcases h with h | h | h
    · exact hc.2.1 h
    · exact hc.2.2 lv (by simp) h
    · exact hc.2.2 bv (by simp) h
  have hD' : ∀ c, Free base br (lv :: bv :: vs) c → c < w.heap.size → Free base br (lv' :: bv' :: .slice none 0 0 :: vs) c := fun c hc hlt => by
    refine ⟨hc.1, hc.2.1, fun o ho e => ?_⟩
    simp only [List.mem_cons] at ho
    rcases ho with rfl | rfl | rfl | ho
    · rcases hnl c e with e | e
      · exact hc.2.2 lv (by simp) e
      · omega
    · rcases hnb c e with e | e
      · exact hc.2.2 bv (by simp) e
      · omega
    · cases e
    · exact hc.2.2 o (by simp [ho]) e
  refine ⟨hb, h.bbr, by simpa using hl, by simpa using hbw, ⟨⟨[], World.ownsRow_nil _ _ _ _, rfl⟩, ?_⟩, ?_, ?_⟩
  · refine RowsOK.move hx hD hD' (fun u hu c hc e => ?_) h.rows
    rcases e with e | e | e
    · exact abr u (by simp [hu]) (by rw [hc, e])
    · exact ap1 u (by simp [hu]) c e hc
    · exact ap2 u hu c e hc
  · simp only [List.pairwise_cons]
    refine ⟨fun u hu c hc e => ?_, fun u hu c hc e => ?_, fun u hu c hc e => (by cases hc), ap3⟩
    · simp only [List.mem_cons] at hu
      rcases hu with rfl | rfl | hu
      · exact hne c hc e
      · cases e
      · rcases hnl c hc with h | h
        · exact ap1 u (by simp [hu]) c h e
        · have := (hlt u hu c e).2; omega
    · simp only [List.mem_cons] at hu
      rcases hu with rfl | hu
      · cases e
      · rcases hnb c hc with h | h
        · exact ap2 u hu c h e
        · have := (hlt u hu c e).2; omega
  · intro x hx'
    simp only [List.mem_cons] at hx'
    rcases hx' with rfl | rfl | rfl | hx'
    · intro e
      rcases hnl br e with e | e
      · exact abr lv (by simp) e
      · omega
    · intro e
      rcases hnb br e with e | e
      · exact abr bv (by simp) e
      · omega
    · intro e; cases e
    · exact abr x (by simp [hx'])

/-- At the start: one row, of no trees. -/
theorem Stk.start (w : World) : Stk (((w.alloc (.cells #[.slice none 0 0] 37)).alloc (.cells #[.int .i64 0] 3)).alloc (.cells #[.slice (some ⟨w.heap.size, 0, none⟩) 1 1, .slice (some ⟨w.heap.size + 1, 0, none⟩) 1 1] 79))
    w.heap.size (w.heap.size + 1 + 1) [(.nil, 0)] (.slice (some ⟨w.heap.size, 0, none⟩) 1 1) (.slice (some ⟨w.heap.size + 1, 0, none⟩) 1 1) [.slice none 0 0] := by
  have h0 := (World.ownsRow_lit (base := w.heap.size) (e := 37) (size := 1) w #[.slice none 0 0] 1 (Nat.le_refl _) (by decide) rfl)
  have h1 := (World.ownsRow_lit (base := w.heap.size) (e := 3) (size := 1) (w.alloc (.cells #[.slice none 0 0] 37)) #[.int .i64 0] 1 (by simp) (by decide) rfl)
  have hb := Blk.new ((w.alloc (.cells #[.slice none 0 0] 37)).alloc (.cells #[.int .i64 0] 3)) #[.slice (some ⟨w.heap.size, 0, none⟩) 1 1, .slice (some ⟨w.heap.size + 1, 0, none⟩) 1 1] 79
  refine ⟨by simpa using hb, by omega, (h0.alloc _).alloc _, by simpa using h1.alloc _, ⟨⟨[], World.ownsRow_nil _ _ _ _, rfl⟩, trivial⟩, ?_, ?_⟩
  · simp [Value.ownBlock]
  · simp [Value.ownBlock]; omega

end Go.Proofs.YthiaikbdghmnbaaDoor
