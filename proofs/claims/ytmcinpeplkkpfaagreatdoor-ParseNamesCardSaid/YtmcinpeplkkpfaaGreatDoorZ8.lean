/- Texts put together by wip/shake.py: QTail, Held, Steps, PNode, PName, PRead: the walks and the laws that the claim's last theorem rests on. -/
import Derived.StillTail
import Derived.Deep.QuietTactic
import Derived.BigQuiet
import Derived.OrdersHeld
import Derived.Test.YtmcinpeplkkpfaaGreatDoorZ7
import Derived.Test.YtmcinpeplkkpfaaGreatDoorChecked
import Derived.RegionTactic
import Derived.ChangeAlike
import Derived.BigRegion
import Derived.Outline
import Derived.Test.YtmcinpeplkkpfaaGreatDoorZ5
import Derived.Test.YtmcinpeplkkpfaaGreatDoorZ6
namespace Go.Proofs.YtmcinpeplkkpfaaGreatDoor
section
variable {P : Program} {ops : Array Oper} {md : Region.Mode} {C : World → Prop}
def wpAnyLQ (P : Program) (md : Region.Mode) (ops : Array Oper) (C : World → Prop) (n : Nat) (L : Array Bool → Act → Prop) : Nat → Array Bool → Act → Prop
  | 0, listed, a => L listed a
  | f + 1, listed, a =>
    Region.ready md ops listed ≠ [] ∧ ∀ i ∈ Region.ready md ops listed, i < n ∧ qOp P ops C i (wpAnyLQ P md ops C n L f (listed.setIfInBounds i true)) a

theorem wpAny_of_headQ {n g : Nat} {L : Array Bool → Act → Prop} {Q' : Exit → Act → World → Prop} (hL : ∀ listed a w, C w → L listed a → wpAny P md ops Q' g listed a w) :
    ∀ (f : Nat) (listed : Array Bool) (a : Act) (w : World), C w → wpAnyLQ P md ops C n L f listed a → wpAny P md ops Q' (f + g) listed a w
  | 0, listed, a, w, hw, h => by rw [Nat.zero_add]; exact hL _ _ _ hw h
  | f + 1, listed, a, w, hw, h => by
    rw [show f + 1 + g = (f + g) + 1 by omega]
    exact ⟨fun h0 => absurd h0 h.1, fun i hi => wpOp_of_qOp hw (fun a' w' hw' h' => wpAny_of_headQ hL f _ a' w' hw' h') (h.2 i hi).2⟩

theorem wpAnyLQ_first {n i : Nat} {oi : Oper} {v : Value} {L : Array Bool → Act → Prop} (hi : ops[i]? = some oi) (hsel : ∀ (j : Nat) (o : Oper) cs b, ops[j]? = some o → o.op ≠ .select cs b)
    (hs : Region.sinkB md ops n = true) (hc : Region.chainB md ops n = true) (hn : n < ops.size) (hin : i < n)
    (hdone : ∀ listed a, L listed a → ∀ j ∈ Region.ready md ops listed, n ≤ j) :
    ∀ (f : Nat) (listed : Array Bool) (a : Act), HeadInv md ops n listed →
      (∀ j oj, ops[j]? = some oj → j ≠ i → listed.getD j true = false → (∀ e ∈ oj.after, Region.binds md e = true → e.on ≠ i) → oi.apart ops oj = true) →
      i ∈ Region.ready md ops listed → YieldsIn P ops C oi v a →
      wpAnyLQ P md ops C n L f (listed.setIfInBounds i true) (a.put oi.dst v) → wpAnyLQ P md ops C n L (f + 1) listed a := by
  intro f
  induction f with
  | zero =>
    intro listed a inv _ hr hy H
    have hun := (mem_ready.1 hr).1
    refine ⟨fun h => (by rw [h] at hr; cases hr), fun j hj => ?_⟩
    have hjn : j < n := by
      rcases Nat.lt_or_ge j n with h | h
      · exact h
      · exact absurd hj (tail_waits hs hc hn inv _ i rfl hin hun j h)
    refine ⟨hjn, ?_⟩
    by_cases hji : j = i
    · subst hji; exact hy.qOp hi H
    · have := hdone _ _ H j (ready_mono hj hji)
      omega
  | succ f ih =>
    intro listed a inv hfree hr hy H
    have hun := (mem_ready.1 hr).1
    refine ⟨fun h => (by rw [h] at hr; cases hr), fun j hj => ?_⟩
    have hjn : j < n := by
      rcases Nat.lt_or_ge j n with h | h
      · exact h
      · exact absurd hj (tail_waits hs hc hn inv _ i rfl hin hun j h)
    refine ⟨hjn, ?_⟩
    by_cases hji : j = i
    · subst hji; exact hy.qOp hi H
    · have h1 := (H.2 j (ready_mono hj hji)).2
      obtain ⟨hjun, oj, hoj, hall⟩ := mem_ready.1 hj
      have hnot : ∀ e ∈ oj.after, Region.binds md e = true → e.on ≠ i := fun e he hb heq => by
        have h1 := hall e he hb
        rw [heq, getD_both hun] at h1
        cases h1
      have h2 := qOp_put hoj (hfree j oj hoj hji hjun hnot) (fun cs b => hsel i oi cs b hi) (fun cs b => hsel j oj cs b hoj) hy h1
      have hfree' : ∀ k ok, ops[k]? = some ok → k ≠ i → (listed.setIfInBounds j true).getD k true = false →
          (∀ e ∈ ok.after, Region.binds md e = true → e.on ≠ i) → oi.apart ops ok = true := fun k ok hk hki hun hno => by
        refine hfree k ok hk hki ?_ hno
        by_cases hjk : j = k
        · subst hjk; exact hjun
        · rw [getD_set_ne true hjk] at hun; exact hun
      refine qOp_mono (fun a' h3 => ih (listed.setIfInBounds j true) a' (inv.set hj hjn) hfree' (ready_mono hr (Ne.symm hji)) h3.1 ?_) h2
      rw [Array.setIfInBounds_comm _ _ hji]
      exact h3.2

theorem wpAnyLQ_lex {n g : Nat} {Lq : Act → Prop} (hsel : Region.noSelect ops = true) (hs : Region.sinkB md ops n = true) (hc : Region.chainB md ops n = true) (hn : n < ops.size) :
    ∀ (l : List Oper) (k : Nat) (listed : Array Bool) (a : Act), (∀ j, j < l.length → l[j]? = ops[k + j]?) → k + l.length = n → HeadInv md ops n listed →
    Region.lexHead md ops g l.length k listed = true → wpQuiet P ops C Lq l a →
    wpAnyLQ P md ops C n (fun listed' a' => Region.seqB md ops g n listed' = true ∧ Lq a') l.length listed a
  | [], k, listed, a, _, hk, _, hB, h => by
    have : k = n := by simpa using hk
    subst this
    exact ⟨by simpa [Region.lexHead] using hB, h⟩
  | o :: l, k, listed, a, hl, hk, inv, hB, h => by
    have h0 : ops[k]? = some o := by simpa using (hl 0 (by simp)).symm
    simp only [List.length_cons, Region.lexHead, Bool.and_eq_true] at hB
    obtain ⟨⟨hr, hf⟩, hB'⟩ := hB
    have hkn : k < n := by simp only [List.length_cons] at hk; omega
    have hr' : k ∈ Region.ready md ops listed := by simpa using hr
    have hst : qOp P ops C k (wpQuiet P ops C Lq l) a := by unfold qOp; simp only [h0]; exact h
    obtain ⟨v, hy, hK⟩ := yieldsIn_of_qOp h0 hst
    exact wpAnyLQ_first h0 (Region.noSelect_spec hsel) hs hc hn hkn (fun listed' a' hL => seqB_ready hL.1) l.length listed a inv (Region.free_spec h0 hf) hr' hy
      (wpAnyLQ_lex hsel hs hc hn l (k + 1) _ _ (fun j hj => by have := hl (j + 1) (by simp; omega); simpa [Nat.add_assoc, Nat.add_comm 1 j] using this) (by simp only [List.length_cons] at hk; omega) (inv.set hr' hkn) hB' hK)

theorem wp_region_quiet_tail_C {id : Nat} {Q : Exit → Act → World → Prop} {a : Act} {w : World} {l : List Oper} (n : Nat) (hm : P.follows .mixedOrders = true) (hB : Region.lexTailB .any l.toArray n = true) (hC : C w.drew)
    (h : wpQuiet P l.toArray C (fun a' => ∀ w', C w' → wpList P l.toArray Q (l.drop n) a' w') (l.take n) a) : (Code.region id l.toArray true).wp P Q a w := by
  simp only [Region.lexTailB, Bool.and_eq_true, decide_eq_true_eq] at hB
  obtain ⟨⟨⟨⟨hsel, hn⟩, hs⟩, hc⟩, hlex⟩ := hB
  have hn' : n < l.length := by simpa using hn
  have htl : (l.take n).length = n := by simp; omega
  have hdl : (l.drop n).length = l.toArray.size - n := by simp
  have inv0 : HeadInv .any l.toArray n (Array.replicate l.toArray.size false) :=
    ⟨by simp, fun j oj _ hl => (by rw [getD_replicate_false] at hl; cases hl), fun t _ ht => getD_in (by simpa using ht) (getD_replicate_false _ _)⟩
  have H := wpAnyLQ_lex (md := .any) (g := l.toArray.size - n) hsel hs hc hn (l.take n) 0 _ a (fun j hj => by
    have hj' : j < n := by rw [htl] at hj; exact hj
    simp [hj']) (by simpa using htl) inv0 (by rw [htl]; exact hlex) h
  refine wp_region_any hm ?_
  have := wpAny_of_headQ (C := C) (Q' := Q) (g := l.toArray.size - n) (fun listed a' w' hw' hL => by
    have := wpAny_of_seq (md := .any) (Q' := Q) (l.drop n) n listed a' w' (fun j => by simp [List.getElem?_drop]) (by rw [hdl]; exact hL.1) (hL.2 w' hw')
    rwa [hdl] at this) _ _ _ w.drew hC H
  rw [htl, show n + (l.toArray.size - n) = l.toArray.size by omega] at this
  exact this

theorem wp_region_quiet_tail {id : Nat} {Q : Exit → Act → World → Prop} {a : Act} {w : World} {l : List Oper} (n : Nat) (hm : P.follows .mixedOrders = true) (hB : Region.lexTailB .any l.toArray n = true)
    (h : wpQuiet P l.toArray (fun w' => ∃ n, w' = w.drewN n) (fun a' => ∀ w', (∃ n, w' = w.drewN n) → wpList P l.toArray Q (l.drop n) a' w') (l.take n) a) : (Code.region id l.toArray true).wp P Q a w :=
  wp_region_quiet_tail_C n hm hB ⟨1, rfl⟩ h

end
end Go.Proofs.YtmcinpeplkkpfaaGreatDoor

namespace Go.Proofs.YtmcinpeplkkpfaaGreatDoor
section
variable {P : Program} {ops : Array Oper} {Q : Exit → Act → World → Prop} {md : Region.Mode} {S : World → Prop}
structure Wd (S : World → Prop) where
  w : World
  ok : S w

def noEnter : Op → Bool
  | .move _ | .assign _ | .pick .. | .load .. | .nilCheck _ | .binOp .. | .unOp .. | .fieldAddr .. | .field .. | .indexAddr .. | .index .. | .slice .. | .extract .. | .build .. | .convert .. | .makeInterface .. => true
  | .call { callee := .builtin .len, .. } | .call { callee := .builtin .cap, .. } => true
  | _ => false

def EndsValue (P : Program) (s : Sem Next) : Prop := ∀ w nx w', s.run P w = .ok nx w' → ∃ v, nx = .value v

theorem EndsValue.pure (v : Value) : EndsValue P (Pure.pure (.value v)) := fun w nx w' h => by
  rw [Sem.run_pure] at h; cases h; exact ⟨v, rfl⟩

theorem EndsValue.halt (x : Halt) : EndsValue P (.halt x) := fun w nx w' h => by cases h

theorem EndsValue.bind {α : Type} {s : Sem α} {k : α → Sem Next} (hk : ∀ a, EndsValue P (k a)) : EndsValue P (s >>= k) := fun w nx w' h => by
  rw [Sem.run_bind] at h
  cases hs : s.run P w with
  | ok a w1 => rw [hs] at h; exact hk a w1 nx w' h
  | halt x w1 => rw [hs] at h; cases h

theorem EndsValue.runtimePanic (e : RuntimeError) : EndsValue P (runtimePanic e) := by
  unfold Go.runtimePanic goPanic
  refine EndsValue.bind fun p => ?_
  cases e <;> repeat (first | exact EndsValue.halt _ | refine EndsValue.bind fun _ => ?_)

theorem noEnter_value {ρ : Operand → Value} {o : Oper} (hn : noEnter o.op = true) : EndsValue P (execOp ρ o) := by
  unfold execOp
  cases hop : o.op <;> rw [hop] at hn <;> simp only [noEnter, Bool.false_eq_true] at hn <;> simp only
  case move => exact .pure _
  case assign => exact .pure _
  case nilCheck x =>
    split
    · exact .runtimePanic _
    · exact .runtimePanic _
    · exact .runtimePanic _
    · split
      · exact .runtimePanic _
      · repeat (first | exact EndsValue.pure _ | exact EndsValue.halt _ | refine EndsValue.bind fun _ => ?_ | split)
      · exact .pure _
    · exact .pure _
  case call c =>
    obtain ⟨callee, args, argTypes⟩ := c
    cases callee with
    | value f => simp at hn
    | invoke r m => simp at hn
    | builtin b =>
      cases b <;> simp at hn
      · exact (EndsValue.bind fun _ => .pure _ : EndsValue P (builtin .cap _ _ _ _))
      · exact (EndsValue.bind fun _ => .pure _ : EndsValue P (builtin .len _ _ _ _))
  all_goals first | exact .bind fun _ => .pure _ | exact .bind fun _ => .bind fun _ => .pure _

def wpAnyHL (P : Program) (md : Region.Mode) (ops : Array Oper) (Q : Exit → Act → World → Prop) (S : World → Prop) (n : Nat) : Nat → Array Bool → Act → World → Prop
  | 0, listed, a, w => Region.ready md ops listed = [] ∧ Q .normal a w
  | fuel + 1, listed, a, w =>
    (Region.ready md ops listed = [] → Q .normal a w) ∧
    ∀ i ∈ Region.ready md ops listed, wpOp P ops Q i (fun a' w' => (i < n → S w') ∧ wpAnyHL P md ops Q S n fuel (listed.setIfInBounds i true) a' w') a w

theorem wpAny_of_HL {n : Nat} : ∀ (fuel : Nat) (listed : Array Bool) (a : Act) (w : World), wpAnyHL P md ops Q S n fuel listed a w → wpAny P md ops Q fuel listed a w
  | 0, _, _, _, h => h
  | fuel + 1, _, _, _, h => ⟨h.1, fun i hi => wpOp_mono (fun a' w' h' => wpAny_of_HL fuel _ a' w' h'.2) (h.2 i hi)⟩

theorem wpAnyHL_first {n i : Nat} {oi : Oper} {v : Value} (hi : ops[i]? = some oi) (hsel : ∀ (j : Nat) (o : Oper) cs b, ops[j]? = some o → o.op ≠ .select cs b)
    (hQ : ∀ c a w, Q (.panic c) (a.put oi.dst v) w → Q (.panic c) a w) (hs : Region.sinkB md ops n = true) (hc : Region.chainB md ops n = true) (hn : n < ops.size) (hin : i < n) :
    ∀ (fuel : Nat) (listed : Array Bool) (a : Act) (w : World), HeadInv md ops n listed →
      (∀ j oj, ops[j]? = some oj → j ≠ i → listed.getD j true = false → (∀ e ∈ oj.after, Region.binds md e = true → e.on ≠ i) → oi.apart ops oj = true) →
      i ∈ Region.ready md ops listed → YieldsIf P ops S oi v a → S w →
      wpAnyHL P md ops Q S n fuel (listed.setIfInBounds i true) (a.put oi.dst v) w → wpAnyHL P md ops Q S n (fuel + 1) listed a w := by
  intro fuel
  induction fuel with
  | zero =>
    intro listed a w _ _ hr hy hS H
    refine ⟨fun h => (by rw [h] at hr; cases hr), fun j hj => ?_⟩
    by_cases hji : j = i
    · subst hji; exact hy.wpOp hi hS ⟨fun _ => hS, H⟩
    · have := ready_mono hj hji
      rw [H.1] at this
      cases this
  | succ fuel ih =>
    intro listed a w inv hfree hr hy hS H
    have hun := (mem_ready.1 hr).1
    refine ⟨fun h => (by rw [h] at hr; cases hr), fun j hj => ?_⟩
    have hjn : j < n := by
      rcases Nat.lt_or_ge j n with h | h
      · exact h
      · exact absurd hj (tail_waits hs hc hn inv _ i rfl hin hun j h)
    by_cases hji : j = i
    · subst hji; exact hy.wpOp hi hS ⟨fun _ => hS, H⟩
    · have h1 := H.2 j (ready_mono hj hji)
      obtain ⟨hjun, oj, hoj, hall⟩ := mem_ready.1 hj
      have hnot : ∀ e ∈ oj.after, Region.binds md e = true → e.on ≠ i := fun e he hb heq => by
        have h1 := hall e he hb
        rw [heq, getD_both hun] at h1
        cases h1
      have h2 := wpOp_putIf hoj (hfree j oj hoj hji hjun hnot) (fun cs b => hsel i oi cs b hi) (fun cs b => hsel j oj cs b hoj) hQ hy h1
      have hfree' : ∀ k ok, ops[k]? = some ok → k ≠ i → (listed.setIfInBounds j true).getD k true = false →
          (∀ e ∈ ok.after, Region.binds md e = true → e.on ≠ i) → oi.apart ops ok = true := fun k ok hk hki hun hno => by
        refine hfree k ok hk hki ?_ hno
        by_cases hjk : j = k
        · subst hjk; exact hjun
        · rw [getD_set_ne true hjk] at hun; exact hun
      refine wpOp_mono (fun a' w' h3 => ⟨h3.2.1, ih (listed.setIfInBounds j true) a' w' (inv.set hj hjn) hfree' (ready_mono hr (Ne.symm hji)) h3.1 (h3.2.1 hjn) ?_⟩) h2
      rw [Array.setIfInBounds_comm _ _ hji]
      exact h3.2.2

def opL (P : Program) (ops : Array Oper) (Q : Exit → Act → World → Prop) (o : Oper) (K : Act → World → Prop) (a : Act) (w : World) : Prop :=
  if Region.wanted o (yielded ops a.tmps) then o.wp P a w K Q ∨ (o.asks P a w ∧ LetsOut Q) else K (a.put o.dst undef) w

theorem opL_wpOp {i : Nat} {o : Oper} (hi : ops[i]? = some o) {K : Act → World → Prop} {a : Act} {w : World} (h : opL P ops Q o K a w) : wpOp P ops Q i K a w := by
  unfold wpOp; simp only [hi]; exact h

end
end Go.Proofs.YtmcinpeplkkpfaaGreatDoor

namespace Go.Proofs.YtmcinpeplkkpfaaGreatDoor
section
variable {P : Program} {ops : Array Oper} {Q : Exit → Act → World → Prop} {md : Region.Mode} {S : World → Prop}
def wpLoud (P : Program) (ops : Array Oper) (Q : Exit → Act → World → Prop) (S : World → Prop) (K : Act → World → Prop) : List Oper → Act → World → Prop
  | [], a, w => K a w
  | o :: rest, a, w => opL P ops Q o (fun a' w' => S w' ∧ wpLoud P ops Q S K rest a' w') a w

def wpSegs (P : Program) (ops : Array Oper) (Q : Exit → Act → World → Prop) (S : World → Prop) (last : Oper) : List (List Oper × List Oper) → Act → World → Prop
  | [], a, w => wpList P ops Q [last] a w
  | (hos, os) :: r, a, w => wpQuiet P ops (fun w' => ∃ x : Wd S, w' = x.w) (fun a' => wpLoud P ops Q S (wpSegs P ops Q S last r) os a' w) hos a

theorem wpLoud_nil {K : Act → World → Prop} {a : Act} {w : World} (h : K a w) : wpLoud P ops Q S K [] a w := h

theorem wpLoud_step {K : Act → World → Prop} {o : Oper} {rest : List Oper} {a : Act} {w : World} (hw : Region.wanted o (yielded ops a.tmps) = true)
    (h : ∀ J : Act → World → Prop, (∀ a w, S w → wpLoud P ops Q S K rest a w → J a w) → o.wp P a w J Q) : wpLoud P ops Q S K (o :: rest) a w := by
  have := h _ (fun a w hS hW => (⟨hS, hW⟩ : S w ∧ wpLoud P ops Q S K rest a w))
  unfold wpLoud opL
  rw [if_pos hw]
  exact .inl this

theorem wpSegs_nil {last : Oper} {a : Act} {w : World} (h : wpList P ops Q [last] a w) : wpSegs P ops Q S last [] a w := h

theorem wpSegs_cons {last : Oper} {hos os : List Oper} {r : List (List Oper × List Oper)} {a : Act} {w : World}
    (h : wpQuiet P ops (fun w' => ∃ x : Wd S, w' = x.w) (fun a' => wpLoud P ops Q S (wpSegs P ops Q S last r) os a' w) hos a) : wpSegs P ops Q S last ((hos, os) :: r) a w := h

def loudB (md : Region.Mode) (ops : Array Oper) (n : Nat) (K : Array Bool → Bool) : List Nat → Array Bool → Bool
  | [], listed => K listed
  | k :: ks, listed => decide (Region.ready md ops listed = [k]) && decide (k < n) && loudB md ops n K ks (listed.setIfInBounds k true)

def headB (md : Region.Mode) (ops : Array Oper) (n : Nat) (K : Array Bool → Bool) : List Nat → Array Bool → Bool
  | [], listed => K listed
  | k :: ks, listed => decide (k < n) && (Region.ready md ops listed).contains k && Region.free md ops listed k && noEnter ((ops[k]?).map (·.op) |>.getD (.alloc 0)) && headB md ops n K ks (listed.setIfInBounds k true)

def segsB (md : Region.Mode) (ops : Array Oper) (n : Nat) : List (List Nat × List Nat) → Array Bool → Bool
  | [], listed => decide (Region.ready md ops listed = [n]) && (Region.ready md ops (listed.setIfInBounds n true)).isEmpty
  | (hd, ld) :: r, listed => headB md ops n (loudB md ops n (segsB md ops n r) ld) hd listed

def segsLen : List (List Nat × List Nat) → Nat
  | [] => 1
  | (hd, ld) :: r => hd.length + (ld.length + segsLen r)

theorem wpAnyHL_loud {n : Nat} {K : Act → World → Prop} {KB : Array Bool → Bool} {m : Nat}
    (hK : ∀ listed a w, HeadInv md ops n listed → KB listed = true → S w → K a w → wpAnyHL P md ops Q S n m listed a w) :
    ∀ (ld : List Nat) (os : List Oper) (listed : Array Bool) (a : Act) (w : World), ld.map (ops[·]?) = os.map some → HeadInv md ops n listed → loudB md ops n KB ld listed = true → S w →
      wpLoud P ops Q S K os a w → wpAnyHL P md ops Q S n (ld.length + m) listed a w
  | [], os, listed, a, w, ho, inv, hB, hS, h => by
    obtain rfl : os = [] := by simpa using ho.symm
    simp only [List.length_nil, Nat.zero_add]
    exact hK listed a w inv hB hS h
  | k :: ks, os, listed, a, w, ho, inv, hB, hS, h => by
    cases os with
    | nil => simp at ho
    | cons o os =>
      simp only [List.map_cons, List.cons.injEq] at ho
      simp only [loudB, Bool.and_eq_true, decide_eq_true_eq] at hB
      obtain ⟨⟨hr, hkn⟩, hB'⟩ := hB
      rw [List.length_cons, show ks.length + 1 + m = ks.length + m + 1 by omega]
      refine ⟨fun h1 => (by rw [hr] at h1; cases h1), fun i hi => ?_⟩
      rw [hr] at hi
      obtain rfl : i = k := by simpa using hi
      have hmem : i ∈ Region.ready md ops listed := by rw [hr]; simp
      have hw : wpOp P ops Q i (fun a' w' => S w' ∧ wpLoud P ops Q S K os a' w') a w := opL_wpOp ho.1 h
      exact wpOp_mono (fun a' w' h' => ⟨fun _ => h'.1, wpAnyHL_loud hK ks os _ a' w' ho.2 (inv.set hmem hkn) hB' h'.1 h'.2⟩) hw

theorem wpAnyHL_head {n : Nat} {last : Oper} (hl : ops[n]? = some last) (hsel : Region.noSelect ops = true) (hs : Region.sinkB md ops n = true) (hc : Region.chainB md ops n = true)
    (hQ : ∀ c d v a w, Q (.panic c) (Act.put a d v) w → Q (.panic c) a w) {KP : Act → World → Prop} {KB : Array Bool → Bool} {m : Nat}
    (hK : ∀ listed a w, HeadInv md ops n listed → KB listed = true → S w → KP a w → wpAnyHL P md ops Q S n m listed a w) :
    ∀ (hd : List Nat) (hos : List Oper) (listed : Array Bool) (a : Act) (w : World), hd.map (ops[·]?) = hos.map some → HeadInv md ops n listed → headB md ops n KB hd listed = true → S w →
      wpQuiet P ops (fun w' => ∃ x : Wd S, w' = x.w) (fun a' => KP a' w) hos a → wpAnyHL P md ops Q S n (hd.length + m) listed a w
  | [], hos, listed, a, w, ho, inv, hB, hS, h => by
    obtain rfl : hos = [] := by simpa using ho.symm
    simp only [List.length_nil, Nat.zero_add]
    exact hK listed a w inv hB hS h
  | k :: ks, hos, listed, a, w, ho, inv, hB, hS, h => by
    cases hos with
    | nil => simp at ho
    | cons o hos =>
      simp only [List.map_cons, List.cons.injEq] at ho
      simp only [headB, Bool.and_eq_true, decide_eq_true_eq, ho.1, Option.map_some, Option.getD_some] at hB
      obtain ⟨⟨⟨⟨hkn, hr⟩, hf⟩, hne⟩, hB'⟩ := hB
      have hr' : k ∈ Region.ready md ops listed := by simpa using hr
      have hst : qOp P ops (fun w' => ∃ x : Wd S, w' = x.w) k (wpQuiet P ops (fun w' => ∃ x : Wd S, w' = x.w) (fun a' => KP a' w) hos) a := by unfold qOp; simp only [ho.1]; exact h
      obtain ⟨v, hy, hK'⟩ := yieldsIn_of_qOp ho.1 hst
      have hy2 : YieldsIf P ops S o v a := by
        rcases hy with ⟨hw, hv⟩ | ⟨hw, hv⟩
        · refine .inl ⟨hw, fun w' hS' => ?_⟩
          have hq := hv w' ⟨⟨w', hS'⟩, rfl⟩
          unfold Oper.quietAt at hq
          cases hrun : (execOp a.eval o).run P w' with
          | ok nx w1 =>
            obtain ⟨u, rfl⟩ := noEnter_value hne w' nx w1 hrun
            rw [hrun] at hq
            obtain ⟨rfl, rfl⟩ := hq
            rfl
          | halt x w1 => rw [hrun] at hq; exact hq.elim
        · exact .inr ⟨hw, hv⟩
      have := wpAnyHL_head hl hsel hs hc hQ hK ks hos (listed.setIfInBounds k true) (a.put o.dst v) w ho.2 (inv.set hr' hkn) hB' hS hK'
      rw [List.length_cons, show ks.length + 1 + m = ks.length + m + 1 by omega]
      exact wpAnyHL_first ho.1 (Region.noSelect_spec hsel) (fun c a w h => hQ c _ _ a w h) hs hc (Array.getElem?_eq_some_iff.1 hl).1 hkn _ listed a w inv (Region.free_spec ho.1 hf) hr' hy2 hS this

def segsFit (ops : Array Oper) : List (List Nat × List Nat) → List (List Oper × List Oper) → Prop
  | [], [] => True
  | (hd, ld) :: r, (hos, os) :: q => hd.map (ops[·]?) = hos.map some ∧ ld.map (ops[·]?) = os.map some ∧ segsFit ops r q
  | _, _ => False

theorem wpAnyHL_segs {n : Nat} {last : Oper} (hl : ops[n]? = some last) (hsel : Region.noSelect ops = true) (hs : Region.sinkB md ops n = true) (hc : Region.chainB md ops n = true)
    (hQ : ∀ c d v a w, Q (.panic c) (Act.put a d v) w → Q (.panic c) a w) :
    ∀ (sg : List (List Nat × List Nat)) (sq : List (List Oper × List Oper)) (listed : Array Bool) (a : Act) (w : World), segsFit ops sg sq → HeadInv md ops n listed → segsB md ops n sg listed = true → S w →
      wpSegs P ops Q S last sq a w → wpAnyHL P md ops Q S n (segsLen sg) listed a w
  | [], [], listed, a, w, _, _, hB, _, h => by
    simp only [segsB, Bool.and_eq_true, decide_eq_true_eq] at hB
    refine ⟨fun h1 => (by rw [hB.1] at h1; cases h1), fun i hi => ?_⟩
    rw [hB.1] at hi
    obtain rfl : i = n := by simpa using hi
    have hw : wpOp P ops Q i (Q .normal) a w := opL_wpOp hl h
    exact wpOp_mono (fun a' w' h' => ⟨fun hin => absurd hin (Nat.lt_irrefl _), by simpa using hB.2, h'⟩) hw
  | (hd, ld) :: r, (hos, os) :: q, listed, a, w, ⟨h1, h2, h3⟩, inv, hB, hS, h =>
    wpAnyHL_head hl hsel hs hc hQ (KP := fun a w => wpLoud P ops Q S (wpSegs P ops Q S last q) os a w) (KB := loudB md ops n (segsB md ops n r) ld) (m := ld.length + segsLen r)
      (fun listed a w inv hB hS h => wpAnyHL_loud (K := wpSegs P ops Q S last q) (KB := segsB md ops n r) (m := segsLen r) (fun listed a w inv hB hS h => wpAnyHL_segs hl hsel hs hc hQ r q listed a w h3 inv hB hS h) ld os listed a w h2 inv hB hS h)
      hd hos listed a w h1 inv hB hS h
  | [], _ :: _, _, _, _, h, _, _, _, _ => h.elim
  | _ :: _, [], _, _, _, h, _, _, _, _ => h.elim

theorem wp_region_segs {id : Nat} {a : Act} {w : World} {l : List Oper} (S : World → Prop) (sg : List (List Nat × List Nat)) (sq : List (List Oper × List Oper)) (last : Oper) (hm : P.follows .mixedOrders = true)
    (hB : (Region.noSelect l.toArray && Region.sinkB .any l.toArray (l.length - 1) && Region.chainB .any l.toArray (l.length - 1) && decide (segsLen sg = l.length) && segsB .any l.toArray (l.length - 1) sg (Array.replicate l.toArray.size false)) = true)
    (hl : l.toArray[l.length - 1]? = some last) (hf : segsFit l.toArray sg sq)
    (hQ : ∀ c d v a w, Q (.panic c) (Act.put a d v) w → Q (.panic c) a w) (hS : S w.drew)
    (h : wpSegs P l.toArray Q S last sq a w.drew) : (Code.region id l.toArray true).wp P Q a w := by
  simp only [Bool.and_eq_true, decide_eq_true_eq] at hB
  obtain ⟨⟨⟨⟨hsel, hs⟩, hc⟩, hlen⟩, hB'⟩ := hB
  have inv0 : HeadInv .any l.toArray (l.length - 1) (Array.replicate l.toArray.size false) :=
    ⟨by simp, fun j oj _ hl => (by rw [getD_replicate_false] at hl; cases hl), fun t _ ht => getD_in (by simpa using ht) (getD_replicate_false _ _)⟩
  refine wp_region_any hm (wpAny_of_HL (n := l.length - 1) (S := S) _ _ _ _ ?_)
  have := wpAnyHL_segs (md := .any) hl hsel hs hc hQ sg sq _ a w.drew hf inv0 hB' hS h
  rw [hlen] at this
  simpa using this

def segOps (l : List Oper) : List (List Nat × List Nat) → List (List Oper × List Oper)
  | [] => []
  | (hd, ld) :: r => (hd.filterMap (l[·]?), ld.filterMap (l[·]?)) :: segOps l r

theorem map_fit (l : List Oper) : ∀ hd : List Nat, (hd.all fun k => decide (k < l.length)) = true → hd.map (l.toArray[·]?) = (hd.filterMap (l[·]?)).map some
  | [], _ => rfl
  | k :: ks, h => by
    simp only [List.all_cons, Bool.and_eq_true, decide_eq_true_eq] at h
    have hk : l[k]? = some l[k] := List.getElem?_eq_getElem h.1
    rw [List.map_cons, List.filterMap_cons, hk, List.map_cons, map_fit l ks (by simpa using h.2)]
    simp [h.1]

theorem segsFit_of (l : List Oper) : ∀ sg : List (List Nat × List Nat), (sg.all fun p => (p.1.all fun k => decide (k < l.length)) && (p.2.all fun k => decide (k < l.length))) = true → segsFit l.toArray sg (segOps l sg)
  | [], _ => trivial
  | (hd, ld) :: r, h => by
    rw [List.all_cons, Bool.and_eq_true, Bool.and_eq_true] at h
    exact ⟨map_fit l hd h.1.1, map_fit l ld h.1.2, segsFit_of l r h.2⟩

theorem wp_region_steps {id : Nat} {a : Act} {w : World} {l : List Oper} (S : World → Prop) (sg : List (List Nat × List Nat)) (last : Oper) (hm : P.follows .mixedOrders = true)
    (hB : (Region.noSelect l.toArray && Region.sinkB .any l.toArray (l.length - 1) && Region.chainB .any l.toArray (l.length - 1) && decide (segsLen sg = l.length) && segsB .any l.toArray (l.length - 1) sg (Array.replicate l.toArray.size false)) = true)
    (hl : l.toArray[l.length - 1]? = some last) (hf : (sg.all fun p => (p.1.all fun k => decide (k < l.length)) && (p.2.all fun k => decide (k < l.length))) = true)
    (hQ : ∀ c d v a w, Q (.panic c) (Act.put a d v) w → Q (.panic c) a w) (hS : S w.drew)
    (h : wpSegs P l.toArray Q S last (segOps l sg) a w.drew) : (Code.region id l.toArray true).wp P Q a w :=
  wp_region_segs S sg (segOps l sg) last hm hB hl (segsFit_of l sg hf) hQ hS h

end
end Go.Proofs.YtmcinpeplkkpfaaGreatDoor

namespace Go.Proofs.YtmcinpeplkkpfaaGreatDoor
open Go.RowKit
set_option linter.unusedVariables false
def Fst (w : World) (fb : Nat) (bad : Bool) (at_ : Int) : Prop := Blk w fb #[.bool bad, .int .i64 at_] 53

def nodeV (wd : ByteArray) (kv : Value) (r : Bool) (p : Int) (fb : Nat) : Value := .agg #[.string wd, kv, .bool r, .int .i64 p, .pointer (some ⟨fb, 0, none⟩)]

def NodeIn (w : World) (nb : Nat) (wd : ByteArray) (kv : Value) (r : Bool) (p : Int) (fb : Nat) : Prop := Blk w nb #[.string wd, kv, .bool r, .int .i64 p, .pointer (some ⟨fb, 0, none⟩)] 57

theorem Fst.ext {M : Nat → Prop} {w w' : World} {fb : Nat} {bad : Bool} {q : Int} (h : Fst w fb bad q) (he : Ext M w w') (hm : ¬ M fb) : Fst w' fb bad q := Blk.ext h he hm

theorem Fst.cells {w : World} {fb : Nat} {bad : Bool} {q : Int} (h : Fst w fb bad q) : w.cell? ⟨fb, 0, none⟩ = some (.bool bad) ∧ w.cell? ⟨fb, 1, none⟩ = some (.int .i64 q) := ⟨Blk.cell h 0, Blk.cell h 1⟩

theorem NodeIn.cells {w : World} {nb : Nat} {wd : ByteArray} {kv : Value} {r : Bool} {p : Int} {fb : Nat} (h : NodeIn w nb wd kv r p fb) :
    w.cell? ⟨nb, 0, none⟩ = some (.string wd) ∧ w.cell? ⟨nb, 1, none⟩ = some kv ∧ w.cell? ⟨nb, 2, none⟩ = some (.bool r) ∧ w.cell? ⟨nb, 3, none⟩ = some (.int .i64 p) ∧ w.cell? ⟨nb, 4, none⟩ = some (.pointer (some ⟨fb, 0, none⟩)) :=
  ⟨Blk.cell h 0, Blk.cell h 1, Blk.cell h 2, Blk.cell h 3, Blk.cell h 4⟩

theorem NodeIn.new (w : World) (wd : ByteArray) (kv : Value) (r : Bool) (p : Int) (fb : Nat) :
    NodeIn (w.alloc (.cells #[.string wd, kv, .bool r, .int .i64 p, .pointer (some ⟨fb, 0, none⟩)] 57)) w.heap.size wd kv r p fb := Blk.new w _ _

theorem NodeIn.ext {M : Nat → Prop} {w w' : World} {nb : Nat} {wd : ByteArray} {kv : Value} {r : Bool} {p : Int} {fb : Nat} (h : NodeIn w nb wd kv r p fb) (he : Ext M w w') (hm : ¬ M nb) : NodeIn w' nb wd kv r p fb := Blk.ext h he hm

theorem fault_no (wd : ByteArray) (kv : Value) (r : Bool) (p : Int) (fb : Nat) (q : Int) (w : World) (hk : ∃ a n cap, kv = .slice a n cap) (h : Fst w fb false q) :
    Calls Tryz.prog 55 #[nodeV wd kv r p fb] w fun e w' => e = .returned (.tuple #[]) ∧ Ext (· = fb) w w' ∧ Fst w' fb true p := by
  obtain ⟨a, n, cap, rfl⟩ := hk
  obtain ⟨c0, c1⟩ := h.cells
  have f0 := Blk.frozen h 0
  have f1 := Blk.frozen h 1
  have hl := Blk.lt h
  unfold nodeV
  go_enter Tryz.func55, Tryz.ntmps55
  go_wp2_with fail
  go_region
  go_end0
  refine ⟨rfl, ((((Ext.refl (· = fb) w).setCell (p := ⟨fb, 0, none⟩) (fun _ => rfl) _).setCell (p := ⟨fb, 1, none⟩) (fun _ => rfl) _).alloc _).drew, ?_⟩
  have := (((Blk.set h 0 (.bool true)).set 1 (.int .i64 p)).alloc (.cells #[.string wd, .slice a n cap, .bool r, .int .i64 p, .pointer (some ⟨fb, 0, none⟩)] 57)).drew
  simpa [Fst] using this

def F.get : F → Nat → Option (ByteArray × Bool × Int × F)
  | .nil, _ => none
  | .cons wd r p k _, 0 => some (wd, r, p, k)
  | .cons _ _ _ _ t, i + 1 => t.get i

theorem F.get_lt : ∀ {f : F} {i : Nat} {x}, f.get i = some x → i < f.len
  | .cons _ _ _ _ _, 0, _, _ => by simp [F.len]
  | .cons _ _ _ _ t, i + 1, _, h => by have := F.get_lt (f := t) h; simp [F.len]; omega

theorem F.get_some : ∀ {f : F} {i : Nat}, i < f.len → ∃ wd r p k, f.get i = some (wd, r, p, k)
  | .cons _ _ _ _ _, 0, _ => ⟨_, _, _, _, rfl⟩
  | .cons _ _ _ _ t, i + 1, h => F.get_some (f := t) (by simpa [F.len] using h)

theorem RowAt.get {D : Nat → Prop} {w : World} {b : Nat} : ∀ {f : F} {i off : Nat} {wd : ByteArray} {r : Bool} {p : Int} {k : F}, RowAt D w b f off → f.get i = some (wd, r, p, k) →
    w.cell? ⟨b, off + i * 4, none⟩ = some (.string wd) ∧ (∃ kv, w.cell? ⟨b, off + i * 4 + 1, none⟩ = some kv ∧ Sl D w kv k) ∧ w.cell? ⟨b, off + i * 4 + 2, none⟩ = some (.bool r) ∧ w.cell? ⟨b, off + i * 4 + 3, none⟩ = some (.int .i64 p) ∧ wd.size ≤ maxLen
  | .cons _ _ _ _ _, 0, off, _, _, _, _, h, e => by
    simp only [F.get, Option.some.injEq, Prod.mk.injEq] at e
    obtain ⟨rfl, rfl, rfl, rfl⟩ := e
    obtain ⟨h0, h1, h2, h3, h4, _⟩ := h
    simpa using ⟨h0, h1, h2, h3, h4⟩
  | .cons _ _ _ _ t, i + 1, off, _, _, _, _, h, e => by
    have := RowAt.get (f := t) (i := i) h.2.2.2.2.2 e
    rwa [show off + 4 + i * 4 = off + (i + 1) * 4 by omega] at this

theorem Sl.some {D : Nat → Prop} {w : World} {kv : Value} {k : F} (h : Sl D w kv k) : ∃ a n cap, kv = .slice a n cap := by
  obtain ⟨a, cap, h, _⟩ := h.shape; exact ⟨a, _, cap, h⟩

theorem kid_any {B : Nat} (wd : ByteArray) (kv : Value) (r : Bool) (p : Int) (fb : Nat) (k : F) (i : Nat) (wd1 : ByteArray) (r1 : Bool) (p1 : Int) (k1 : F) (w : World)
    (hk : Sl (· < B) w kv k) (hi : k.get i = some (wd1, r1, p1, k1)) :
    Calls Tryz.prog 38 #[nodeV wd kv r p fb, .int .i64 i] w fun e w' => ∃ kv1, e = .returned (nodeV wd1 kv1 r1 p1 fb) ∧ Ext (fun _ => False) w w' ∧ Sl (· < B) w' kv1 k1 ∧ wd1.size ≤ maxLen := by
  have hlt := F.get_lt hi
  obtain ⟨a, cap, b, off, rfl, h1, h2, h3, h4⟩ := hk.rowAt'
  obtain ⟨rfl, hD⟩ := h3 (by omega)
  obtain ⟨c0, ⟨kv1, c1, hs1⟩, c2, c3, hsz⟩ := h4.get hi
  have hb := World.block_lt_of_cell? w _ c0
  have hb' : b < w.heap.size := hb
  obtain ⟨a1, n1, cap1, rfl⟩ := hs1.some
  have i0 : (0 : Int) ≤ (i : Int) := by omega
  have i1 : (i : Int) < (k.len : Int) := by omega
  have HL := Lib.hid hlt
  clear hi hlt h4 hb
  unfold nodeV maxLen at *
  go_enter Tryz.func38, Tryz.ntmps38
  go_wp2_with fail
  go_region
  go_wp2_with fail
  have hx := fun o1 o2 => (((Ext.refl (fun _ => False) w).alloc o1).alloc o2).drew
  exact bodyPost_ret (v := nodeV wd1 (.slice a1 n1 cap1) r1 p1 fb) (by simp [results, Tryz.results38, go_sem, nodeV]) rfl ⟨_, rfl, hx _ _, hs1.ext (hx _ _) (fun _ _ h => h), hsz⟩

theorem head_any {B : Nat} (wd : ByteArray) (kv : Value) (r : Bool) (p : Int) (fb : Nat) (k : F) (w : World) (hk : Sl (· < B) w kv k) :
    Calls Tryz.prog 37 #[nodeV wd kv r p fb] w fun e w' => e = .returned (.string (headW r k)) ∧ Ext (fun _ => False) w w' := by
  obtain ⟨a, cap, b, off, rfl, h1, h2, h3, h4⟩ := hk.rowAt'
  unfold maxLen at h2
  unfold nodeV
  cases r with
  | false =>
    go_enter Tryz.func37, Tryz.ntmps37
    go_wp2_with fail
    go_ret
    exact ⟨rfl, (Ext.refl _ _).alloc _⟩
  | true =>
    cases k with
    | nil =>
      unfold F.len
      go_enter Tryz.func37, Tryz.ntmps37
      go_wp2_with fail
      go_ret
      exact ⟨rfl, (Ext.refl _ _).alloc _⟩
    | cons wd0 r0 p0 k0 rest =>
      obtain ⟨rfl, hD⟩ := h3 (by simp [F.len])
      obtain ⟨c0, ⟨kv1, c1, hs1⟩, c2, c3, hsz, _⟩ := h4
      have hb := World.block_lt_of_cell? w _ c0
      have hb' : b < w.heap.size := hb
      unfold F.len at *
      have l0 : decide ((((rest.len + 1 : Nat) : Int)) = 0) = false := by simp; omega
      have l1 : (0 : Int) < ((rest.len + 1 : Nat) : Int) := by omega
      cases r0 with
      | true =>
        go_enter Tryz.func37, Tryz.ntmps37
        go_wp2_with fail
        go_ret
        exact ⟨rfl, (Ext.refl _ _).alloc _⟩
      | false =>
        go_enter Tryz.func37, Tryz.ntmps37
        go_wp2_with fail
        go_ret
        exact ⟨rfl, (Ext.refl _ _).alloc _⟩

end Go.Proofs.YtmcinpeplkkpfaaGreatDoor

namespace Go.Proofs.YtmcinpeplkkpfaaGreatDoor
open Go.RowKit Go.Proofs.YtmcinpeplkkpfaaGreatDoorW.PrintWords
open PParseTells
theorem ladder (c : Int) {α : Type} (x y : α) :
    (if c ≥ 97 then (if c ≤ 122 then x else (if c ≥ 48 then (if c ≤ 57 then x else (if c = 95 then x else y)) else (if c = 95 then x else y))) else (if c ≥ 48 then (if c ≤ 57 then x else (if c = 95 then x else y)) else (if c = 95 then x else y)))
      = if (97 ≤ c ∧ c ≤ 122) ∨ (48 ≤ c ∧ c ≤ 57) ∨ c = 95 then x else y := by
  repeat' split
  all_goals first | rfl | (exfalso; omega)

theorem nameByte_iff (c : UInt8) : nameByte c = true ↔ (97 ≤ (c.toNat : Int) ∧ (c.toNat : Int) ≤ 122) ∨ (48 ≤ (c.toNat : Int) ∧ (c.toNat : Int) ≤ 57) ∨ (c.toNat : Int) = 95 := by
  have e : (c = 95) ↔ (c.toNat : Int) = 95 := ⟨fun h => by rw [h]; rfl, fun h => UInt8.toNat_inj.1 (by simpa using (by omega : c.toNat = 95))⟩
  simp only [nameByte, lower, digit, Bool.or_eq_true, Bool.and_eq_true, decide_eq_true_eq, beq_iff_eq, UInt8.le_iff_toNat_le, e]
  simp only [show (97 : UInt8).toNat = 97 from rfl, show (122 : UInt8).toNat = 122 from rfl, show (48 : UInt8).toNat = 48 from rfl, show (57 : UInt8).toNat = 57 from rfl]
  omega

theorem bt_get {s : ByteArray} {i : Nat} (h : i < s.size) : bt s (i : Int) = (s[i].toNat : Int) := by
  unfold bt; rw [dif_pos (by simpa using h)]; simp

theorem contains_reserved (k : Nat) (s : ByteArray) :
    (slices_Contains_string_string.f (k + 9) [(⟨#[116, 114, 117, 101]⟩ : ByteArray), (⟨#[102, 97, 108, 115, 101]⟩ : ByteArray), (⟨#[116, 97, 103]⟩ : ByteArray), (⟨#[97, 110, 100]⟩ : ByteArray), (⟨#[111, 114]⟩ : ByteArray), (⟨#[110, 111, 116]⟩ : ByteArray), (⟨#[105, 102, 102]⟩ : ByteArray), (⟨#[107, 97, 112, 112, 97]⟩ : ByteArray)] s) = some (reserved.contains s.data.toList) := by
  simp only [slices_Contains_string_string.f, slices_Index_string_string.f, slices_Index_string_string.l0, rdOf, List.length_cons, List.length_nil, ByteArray.toList_eq, reserved]
  simp (config := { decide := true }) only [wrap64]
  simp
  generalize s.data.toList = l
  by_cases h0 : l = [116, 114, 117, 101]
  · subst h0; rfl
  rw [if_neg h0, decide_eq_false h0]
  by_cases h1 : l = [102, 97, 108, 115, 101]
  · subst h1; rfl
  rw [if_neg h1, decide_eq_false h1]
  by_cases h2 : l = [116, 97, 103]
  · subst h2; rfl
  rw [if_neg h2, decide_eq_false h2]
  by_cases h3 : l = [97, 110, 100]
  · subst h3; rfl
  rw [if_neg h3, decide_eq_false h3]
  by_cases h4 : l = [111, 114]
  · subst h4; rfl
  rw [if_neg h4, decide_eq_false h4]
  by_cases h5 : l = [110, 111, 116]
  · subst h5; rfl
  rw [if_neg h5, decide_eq_false h5]
  by_cases h6 : l = [105, 102, 102]
  · subst h6; rfl
  rw [if_neg h6, decide_eq_false h6]
  by_cases h7 : l = [107, 97, 112, 112, 97]
  · subst h7; rfl
  rw [if_neg h7, decide_eq_false h7]
  rfl

theorem parse_name_loop (s : ByteArray) (hs : s.size ≤ 40) : ∀ (d i k : Nat), s.size - i = d → i ≤ s.size →
    parse_Name.l0 (k + d + 10) s (s.size : Int) i = some ((s.data.toList.drop i).all nameByte && !reserved.contains s.data.toList) := by
  intro d
  induction d with
  | zero =>
    intro i k hd hi
    have e : i = s.size := by omega
    subst e
    rw [parse_Name.l0, if_neg (by omega), show k + 0 + 9 = k + 9 by omega, contains_reserved, drop_end (Nat.le_refl _)]
    rfl
  | succ d ih =>
    intro i k hd hi
    have hlt : i < s.size := by omega
    rw [parse_Name.l0, if_pos (by omega), if_pos (by omega), if_pos (by omega), ladder, bt_get hlt, drop_cons hlt, List.all_cons]
    have hw : wrap64 ((i : Int) + 1) = ((i + 1 : Nat) : Int) := by unfold wrap64; omega
    by_cases hb : nameByte s[i] = true
    · rw [if_pos ((nameByte_iff _).1 hb), hw, show k + (d + 1) + 9 = k + d + 10 by omega, ih (i + 1) k (by omega) (by omega), hb]; rfl
    · rw [if_neg (fun h => hb ((nameByte_iff _).2 h))]
      have : nameByte s[i] = false := by simpa using hb
      rw [this]; rfl

theorem isName_eq (s : ByteArray) : isName s = (decide (s.size ≠ 0) && decide (s.size ≤ 40) && (if h : 0 < s.size then lower s[0] else false) && s.data.toList.all nameByte && !reserved.contains s.data.toList) := by
  unfold isName
  have hl : s.data.toList.length = s.size := by rw [Lib.size_eq]
  by_cases h : 0 < s.size
  · have e := drop_cons h
    rw [List.drop_zero] at e
    rw [dif_pos h]
    generalize s[0] = c at *
    rw [e] at hl ⊢
    simp only [nameL, hl]
    have hz : decide (s.size ≠ 0) = true := decide_eq_true (fun h0 => by rw [h0] at hl; simp at hl)
    rw [hz, Bool.true_and]
  · have h0 : s.data.toList = [] := List.eq_nil_of_length_eq_zero (by omega)
    rw [h0]
    have hz : s.size = 0 := by omega
    simp [hz, nameL]

theorem lower_iff (c : UInt8) : lower c = true ↔ (97 ≤ (c.toNat : Int) ∧ (c.toNat : Int) ≤ 122) := by
  simp only [lower, Bool.and_eq_true, decide_eq_true_eq, UInt8.le_iff_toNat_le]
  simp only [show (97 : UInt8).toNat = 97 from rfl, show (122 : UInt8).toNat = 122 from rfl]
  omega

theorem parse_name_law (s : ByteArray) : parse_Name.f (s.size + 11) s = some (isName s) := by
  rw [isName_eq]
  have hl : s.data.toList.length = s.size := by rw [Lib.size_eq]
  unfold parse_Name.f
  rw [ByteArray.toList_eq]
  by_cases h0 : s.size = 0
  · rw [if_pos (List.eq_nil_of_length_eq_zero (by omega)), parse_Name.j0, if_pos rfl]
    simp [h0]
  · rw [if_neg (fun h => h0 (by rw [← hl, h]; rfl))]
    by_cases h1 : s.size ≤ 40
    · rw [if_neg (by omega), if_pos (by omega)]
      have hlt : 0 < s.size := by omega
      have hb : bt s 0 = (s[0].toNat : Int) := bt_get hlt
      rw [dif_pos hlt, hb]
      have e0 : decide (s.size ≠ 0) = true := by simp [h0]
      have e1 : decide (s.size ≤ 40) = true := by simp [h1]
      rw [e0, e1, Bool.true_and, Bool.true_and]
      by_cases hlo : lower s[0] = true
      · have := (lower_iff _).1 hlo
        rw [if_neg (by omega), parse_Name.j0, if_neg (by simp; omega), hlo, Bool.true_and]
        have := parse_name_loop s h1 s.size 0 0 (by omega) (by omega)
        rw [show 0 + s.size + 10 = s.size + 10 by omega] at this
        simpa using this
      · have hn : ¬ ((97 ≤ (s[0].toNat : Int) ∧ (s[0].toNat : Int) ≤ 122)) := fun h => hlo ((lower_iff _).2 h)
        have hf : lower s[0] = false := by simpa using hlo
        rw [hf]
        split
        · rw [parse_Name.j0, if_pos rfl]; rfl
        · rw [parse_Name.j0, if_pos (by simp; omega)]; rfl
    · rw [if_pos (by omega), parse_Name.j0, if_pos rfl]
      simp [h1]

theorem ref_name_loop (s : ByteArray) (hs : s.size ≤ 40) : ∀ (d i k : Nat), s.size - i = d → i ≤ s.size →
    whetstoneref16_Name.l0 (k + d + 1) s i = some ((s.data.toList.drop i).all nameByte && !reserved.contains s.data.toList) := by
  intro d
  induction d with
  | zero =>
    intro i k hd hi
    have e : i = s.size := by omega
    subst e
    rw [whetstoneref16_Name.l0, if_neg (by omega), drop_end (Nat.le_refl _), ByteArray.toList_eq]
    generalize s.data.toList = l
    simp only [List.all_nil, Bool.true_and]
    by_cases h0 : l = [116, 114, 117, 101]
    · rw [if_pos h0, h0]; rfl
    rw [if_neg h0]
    by_cases h1 : l = [102, 97, 108, 115, 101]
    · rw [if_pos h1, h1]; rfl
    rw [if_neg h1]
    by_cases h2 : l = [116, 97, 103]
    · rw [if_pos h2, h2]; rfl
    rw [if_neg h2]
    by_cases h3 : l = [97, 110, 100]
    · rw [if_pos h3, h3]; rfl
    rw [if_neg h3]
    by_cases h4 : l = [111, 114]
    · rw [if_pos h4, h4]; rfl
    rw [if_neg h4]
    by_cases h5 : l = [110, 111, 116]
    · rw [if_pos h5, h5]; rfl
    rw [if_neg h5]
    by_cases h6 : l = [105, 102, 102]
    · rw [if_pos h6, h6]; rfl
    rw [if_neg h6]
    by_cases h7 : l = [107, 97, 112, 112, 97]
    · simp [h7, reserved]
    have : reserved.contains l = false := by simp [reserved, h0, h1, h2, h3, h4, h5, h6, h7]
    rw [this]; simp [h7]
  | succ d ih =>
    intro i k hd hi
    have hlt : i < s.size := by omega
    rw [whetstoneref16_Name.l0, if_pos (by omega), if_pos (by omega), ladder, bt_get hlt, drop_cons hlt, List.all_cons]
    have hw : wrap64 ((i : Int) + 1) = ((i + 1 : Nat) : Int) := by unfold wrap64; omega
    by_cases hb : nameByte s[i] = true
    · rw [if_pos ((nameByte_iff _).1 hb), hw, show k + (d + 1) = k + d + 1 by omega, ih (i + 1) k (by omega) (by omega), hb]; rfl
    · rw [if_neg (fun h => hb ((nameByte_iff _).2 h))]
      have : nameByte s[i] = false := by simpa using hb
      rw [this]; rfl

theorem ref_name_law (s : ByteArray) : whetstoneref16_Name.f (s.size + 2) s = some (isName s) := by
  rw [isName_eq]
  unfold whetstoneref16_Name.f
  by_cases h0 : s.size = 0
  · rw [if_pos (by omega), whetstoneref16_Name.j0, if_pos rfl]
    simp [h0]
  · rw [if_neg (by omega)]
    by_cases h1 : s.size ≤ 40
    · rw [if_neg (by omega), if_pos (by omega)]
      have hlt : 0 < s.size := by omega
      have hb : bt s 0 = (s[0].toNat : Int) := bt_get hlt
      rw [dif_pos hlt, hb]
      have e0 : decide (s.size ≠ 0) = true := by simp [h0]
      have e1 : decide (s.size ≤ 40) = true := by simp [h1]
      rw [e0, e1, Bool.true_and, Bool.true_and]
      by_cases hlo : lower s[0] = true
      · have := (lower_iff _).1 hlo
        rw [if_neg (by omega), whetstoneref16_Name.j0, if_neg (by simp; omega), hlo, Bool.true_and]
        have := ref_name_loop s h1 s.size 0 0 (by omega) (by omega)
        rw [show 0 + s.size + 1 = s.size + 1 by omega] at this
        simpa using this
      · have hn : ¬ ((97 ≤ (s[0].toNat : Int) ∧ (s[0].toNat : Int) ≤ 122)) := fun h => hlo ((lower_iff _).2 h)
        have hf : lower s[0] = false := by simpa using hlo
        rw [hf]
        split
        · rw [whetstoneref16_Name.j0, if_pos rfl]; rfl
        · rw [whetstoneref16_Name.j0, if_pos (by simp; omega)]; rfl
    · rw [if_pos (by omega), whetstoneref16_Name.j0, if_pos rfl]
      simp [h1]

theorem name_any (s : ByteArray) (w : World) : Calls Tryz.prog 9 #[.string s] w fun e w' => e = .returned (.bool (isName s)) ∧ Ext (fun _ => False) w w' :=
  (parse_Name.calls _ s _ w (parse_name_law s)).mono fun _ _ ⟨h, hb⟩ => ⟨h, Ext.ofBelow hb⟩

theorem refName_any (s : ByteArray) (w : World) : Calls Tryz.prog 10 #[.string s] w fun e w' => e = .returned (.bool (isName s)) ∧ Ext (fun _ => False) w w' :=
  (whetstoneref16_Name.calls _ s _ w (ref_name_law s)).mono fun _ _ ⟨h, hb⟩ => ⟨h, by obtain ⟨n, rfl⟩ := hb; exact ext_drewN w n _⟩

end Go.Proofs.YtmcinpeplkkpfaaGreatDoor

namespace Go.Proofs.YtmcinpeplkkpfaaGreatDoor
open Go.RowKit
set_option linter.unusedVariables false
def RdPost (fb : Nat) (shp : List Value → Prop) (mk : List Value → Value) {α : Type} (enc : α → U) (res : RR α) (w : World) (e : Ending) (w' : World) : Prop :=
  Ext (· = fb) w w' ∧ ∃ xs, e = .returned (mk xs) ∧ shp xs ∧ match res with
    | .ok a => Fst w' fb false 0 ∧ Rep (fun b => w.heap.size ≤ b) w' (enc a) xs
    | .error q => Fst w' fb true q

def mkOne : List Value → Value | x :: _ => x | [] => undef

def mkAgg (xs : List Value) : Value := .agg xs.toArray

def shpStr (xs : List Value) : Prop := ∃ s, xs = [.string s]

def shpSl (xs : List Value) : Prop := ∃ a n cap, xs = [.slice a n cap]

def shpN (n : Nat) (xs : List Value) : Prop := xs.length = n ∧ ∀ x ∈ xs, x.oneCell' = true

def putL : Array Value → Nat → List Value → Array Value
  | cs, _, [] => cs
  | cs, i, x :: xs => putL (cs.setIfInBounds i x) (i + 1) xs

def IntoPost (fb tb : Nat) (tt : TypeId) (cs : Array Value) (off : Nat) (shp : List Value → Prop) {α : Type} (enc : α → U) (res : RR α) (w : World) (e : Ending) (w' : World) : Prop :=
  e = .returned (.tuple #[]) ∧ Ext (fun b => b = fb ∨ b = tb) w w' ∧ ∃ xs, shp xs ∧ Blk w' tb (putL cs off xs) tt ∧ match res with
    | .ok a => Fst w' fb false 0 ∧ Rep (fun b => w.heap.size ≤ b) w' (enc a) xs
    | .error q => Fst w' fb true q

theorem Fst.setOther {w : World} {fb : Nat} {bad : Bool} {q : Int} (h : Fst w fb bad q) (p : Addr) (hp : p.block ≠ fb) (u : Value) : Fst (w.setCell p u) fb bad q := Blk.setOther h p hp u

theorem Fst.drew {w : World} {fb : Nat} {bad : Bool} {q : Int} (h : Fst w fb bad q) : Fst w.drew fb bad q := h

theorem Rep.setOther {D : Nat → Prop} {w : World} {u : U} {xs : List Value} (h : Rep D w u xs) (p : Addr) (hp : ¬ D p.block) (v : Value) : Rep D (w.setCell p v) u xs :=
  Rep.move (fun b hD _ => Below.heap_setCell _ _ _ _ (fun e => hp (e ▸ hD))) (fun _ h _ => h) u xs h

theorem Rep.drew {D : Nat → Prop} {w : World} {u : U} {xs : List Value} (h : Rep D w u xs) : Rep D w.drew u xs := h.ext (M := fun _ => False) (Ext.refl _ _).drew (fun _ _ h => h)

theorem store_ok {P : Program} {w : World} {b : Nat} {cs : Array Value} {t : TypeId} (h : Blk w b cs t) (i : Nat) (x : Value) (hi : i < cs.size) (hx : x.oneCell' = true) :
    (store ⟨b, i, none⟩ x).run P w = .ok () (w.setCell ⟨b, i, none⟩ x) := by
  have hc := h.cell i
  rw [Array.getElem?_eq_getElem hi] at hc
  rw [run_store P w ⟨b, i, none⟩ x .plain hx, hc, h.frozen i]
  simp

theorem len2 {xs : List Value} (h : shpN 2 xs) : ∃ x0 x1, xs = [x0, x1] ∧ x0.oneCell' = true ∧ x1.oneCell' = true := by
  obtain ⟨hl, hc⟩ := h
  match xs, hl with
  | [x0, x1], _ => exact ⟨x0, x1, rfl, hc _ (by simp), hc _ (by simp)⟩

theorem len5 {xs : List Value} (h : shpN 5 xs) : ∃ x0 x1 x2 x3 x4, xs = [x0, x1, x2, x3, x4] ∧ x0.oneCell' = true ∧ x1.oneCell' = true ∧ x2.oneCell' = true ∧ x3.oneCell' = true ∧ x4.oneCell' = true := by
  obtain ⟨hl, hc⟩ := h
  match xs, hl with
  | [x0, x1, x2, x3, x4], _ => exact ⟨x0, x1, x2, x3, x4, rfl, hc _ (by simp), hc _ (by simp), hc _ (by simp), hc _ (by simp), hc _ (by simp)⟩

theorem len9 {xs : List Value} (h : shpN 9 xs) : ∃ x0 x1 x2 x3 x4 x5 x6 x7 x8, xs = [x0, x1, x2, x3, x4, x5, x6, x7, x8] ∧ x0.oneCell' = true ∧ x1.oneCell' = true ∧ x2.oneCell' = true ∧ x3.oneCell' = true ∧ x4.oneCell' = true ∧ x5.oneCell' = true ∧ x6.oneCell' = true ∧ x7.oneCell' = true ∧ x8.oneCell' = true := by
  obtain ⟨hl, hc⟩ := h
  match xs, hl with
  | [x0, x1, x2, x3, x4, x5, x6, x7, x8], _ => exact ⟨x0, x1, x2, x3, x4, x5, x6, x7, x8, rfl, hc _ (by simp), hc _ (by simp), hc _ (by simp), hc _ (by simp), hc _ (by simp), hc _ (by simp), hc _ (by simp), hc _ (by simp), hc _ (by simp)⟩

theorem len11 {xs : List Value} (h : shpN 11 xs) : ∃ x0 x1 x2 x3 x4 x5 x6 x7 x8 x9 x10, xs = [x0, x1, x2, x3, x4, x5, x6, x7, x8, x9, x10] ∧ x0.oneCell' = true ∧ x1.oneCell' = true ∧ x2.oneCell' = true ∧ x3.oneCell' = true ∧ x4.oneCell' = true ∧ x5.oneCell' = true ∧ x6.oneCell' = true ∧ x7.oneCell' = true ∧ x8.oneCell' = true ∧ x9.oneCell' = true ∧ x10.oneCell' = true := by
  obtain ⟨hl, hc⟩ := h
  match xs, hl with
  | [x0, x1, x2, x3, x4, x5, x6, x7, x8, x9, x10], _ => exact ⟨x0, x1, x2, x3, x4, x5, x6, x7, x8, x9, x10, rfl, hc _ (by simp), hc _ (by simp), hc _ (by simp), hc _ (by simp), hc _ (by simp), hc _ (by simp), hc _ (by simp), hc _ (by simp), hc _ (by simp), hc _ (by simp), hc _ (by simp)⟩

theorem len10 {xs : List Value} (h : shpN 10 xs) : ∃ x0 x1 x2 x3 x4 x5 x6 x7 x8 x9, xs = [x0, x1, x2, x3, x4, x5, x6, x7, x8, x9] ∧ x0.oneCell' = true ∧ x1.oneCell' = true ∧ x2.oneCell' = true ∧ x3.oneCell' = true ∧ x4.oneCell' = true ∧ x5.oneCell' = true ∧ x6.oneCell' = true ∧ x7.oneCell' = true ∧ x8.oneCell' = true ∧ x9.oneCell' = true := by
  obtain ⟨hl, hc⟩ := h
  match xs, hl with
  | [x0, x1, x2, x3, x4, x5, x6, x7, x8, x9], _ => exact ⟨x0, x1, x2, x3, x4, x5, x6, x7, x8, x9, rfl, hc _ (by simp), hc _ (by simp), hc _ (by simp), hc _ (by simp), hc _ (by simp), hc _ (by simp), hc _ (by simp), hc _ (by simp), hc _ (by simp), hc _ (by simp)⟩

end Go.Proofs.YtmcinpeplkkpfaaGreatDoor
