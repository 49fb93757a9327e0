/- A region that draws its order: operations that only compute or read what nobody writes before the last one (S: what holds of every world till then), some loud ones whose order is forced, and a last one that waits for all: one walk serves every order. -/
import Derived.Test.YthiaikbdghmnbaaDoorQTail
import Derived.OrdersHeld
namespace Go.Proofs.YthiaikbdghmnbaaDoor
section
variable {P : Program} {ops : Array Oper} {Q : Exit → Act → World → Prop} {md : Region.Mode} {S : World → Prop}

/-- A world that meets S. -/
structure Wd (S : World → Prop) where
  w : World
  ok : S w

/-- Operations that yield a value, and enter no function. -/
def noEnter : Op → Bool
  | .move _ | .assign _ | .pick .. | .load .. | .nilCheck _ | .binOp .. | .unOp .. | .fieldAddr .. | .field .. | .indexAddr .. | .index .. | .slice .. | .extract .. | .build .. | .convert .. | .makeInterface .. => true
  | .call { callee := .builtin .len, .. } | .call { callee := .builtin .cap, .. } => true
  | _ => false

/-- Whatever it ends with is a value. -/
def EndsValue (P : Program) (s : Sem Next) : Prop := ∀ w nx w', s.run P w = .ok nx w' → ∃ v, nx = .value v

theorem EndsValue.pure (v : Value) : EndsValue P (Pure.pure (.value v)) := fun w nx w' h => by
  rw [Sem.run_pure] at h; cases h; exact ⟨v, rfl⟩
theorem EndsValue.halt (x : Halt) : EndsValue P (.halt x) := fun w nx w' h => by cases h
theorem EndsValue.bind {α : Type} {s : Sem α} {k : α → Sem Next} (hk : ∀ a, EndsValue P (k a)) : EndsValue P (s >>= k) := fun w nx w' h => by
  rw [Sem.run_bind] at h
  cases hs : s.run P w with
  | ok a w1 => rw [hs] at h; exact hk a w1 nx w' h
  | halt x w1 => rw [hs] at h; cases h

theorem EndsValue.runtimePanic (e : RuntimeError) : EndsValue P (runtimePanic e) := by
  unfold Go.runtimePanic goPanic
  refine EndsValue.bind fun p => ?_
  cases e <;> repeat (first | exact EndsValue.halt _ | refine EndsValue.bind fun _ => ?_)

theorem noEnter_value {ρ : Operand → Value} {o : Oper} (hn : noEnter o.op = true) : EndsValue P (execOp ρ o) := by
  unfold execOp
  cases hop : o.op <;> rw [hop] at hn <;> simp only [noEnter, Bool.false_eq_true] at hn <;> simp only
  case move => exact .pure _
  case assign => exact .pure _
  case nilCheck x =>
    split
    · exact .runtimePanic _
    · exact .runtimePanic _
    · exact .runtimePanic _
    · split
      · exact .runtimePanic _
      · repeat (first | exact EndsValue.pure _ | exact EndsValue.halt _ | refine EndsValue.bind fun _ => ?_ | split)
      · exact .pure _
    · exact .pure _
  case call c =>
    obtain ⟨callee, args, argTypes⟩ := c
    cases callee with
    | value f => simp at hn
    | invoke r m => simp at hn
    | builtin b =>
      cases b <;> simp at hn
      · exact (EndsValue.bind fun _ => .pure _ : EndsValue P (builtin .cap _ _ _ _))
      · exact (EndsValue.bind fun _ => .pure _ : EndsValue P (builtin .len _ _ _ _))
  all_goals first | exact .bind fun _ => .pure _ | exact .bind fun _ => .bind fun _ => .pure _

/-- Whatever order is picked from here on, S holding behind every operation that is carried out but the last, number n. -/
def wpAnyHL (P : Program) (md : Region.Mode) (ops : Array Oper) (Q : Exit → Act → World → Prop) (S : World → Prop) (n : Nat) : Nat → Array Bool → Act → World → Prop
  | 0, listed, a, w => Region.ready md ops listed = [] ∧ Q .normal a w
  | fuel + 1, listed, a, w =>
    (Region.ready md ops listed = [] → Q .normal a w) ∧
    ∀ i ∈ Region.ready md ops listed, wpOp P ops Q i (fun a' w' => (i < n → S w') ∧ wpAnyHL P md ops Q S n fuel (listed.setIfInBounds i true) a' w') a w

theorem wpAny_of_HL {n : Nat} : ∀ (fuel : Nat) (listed : Array Bool) (a : Act) (w : World), wpAnyHL P md ops Q S n fuel listed a w → wpAny P md ops Q fuel listed a w
  | 0, _, _, _, h => h
  | fuel + 1, _, _, _, h => ⟨h.1, fun i hi => wpOp_mono (fun a' w' h' => wpAny_of_HL fuel _ a' w' h'.2) (h.2 i hi)⟩

theorem wpAnyHL_first {n i : Nat} {oi : Oper} {v : Value} (hi : ops[i]? = some oi) (hsel : ∀ (j : Nat) (o : Oper) cs b, ops[j]? = some o → o.op ≠ .select cs b)
    (hQ : ∀ c a w, Q (.panic c) (a.put oi.dst v) w → Q (.panic c) a w) (hs : Region.sinkB md ops n = true) (hc : Region.chainB md ops n = true) (hn : n < ops.size) (hin : i < n) :
    ∀ (fuel : Nat) (listed : Array Bool) (a : Act) (w : World), HeadInv md ops n listed →
      (∀ j oj, ops[j]? = some oj → j ≠ i → listed.getD j true = false → (∀ e ∈ oj.after, Region.binds md e = true → e.on ≠ i) → oi.apart ops oj = true) →
      i ∈ Region.ready md ops listed → YieldsIf P ops S oi v a → S w →
      wpAnyHL P md ops Q S n fuel (listed.setIfInBounds i true) (a.put oi.dst v) w → wpAnyHL P md ops Q S n (fuel + 1) listed a w := by
  intro fuel
  induction fuel with
  | zero =>
    intro listed a w _ _ hr hy hS H
    refine ⟨fun h => (by rw [h] at hr; cases hr), fun j hj => ?_⟩
    by_cases hji : j = i
    · subst hji; exact hy.wpOp hi hS ⟨fun _ => hS, H⟩
    · have := ready_mono hj hji
      rw [H.1] at this
      cases this
  | succ fuel ih =>
    intro listed a w inv hfree hr hy hS H
    have hun := (mem_ready.1 hr).1
    refine ⟨fun h => (by rw [h] at hr; cases hr), fun j hj => ?_⟩
    have hjn : j < n := by
      rcases Nat.lt_or_ge j n with h | h
      · exact h
      · exact absurd hj (tail_waits hs hc hn inv _ i rfl hin hun j h)
    by_cases hji : j = i
    · subst hji; exact hy.wpOp hi hS ⟨fun _ => hS, H⟩
    · have h1 := H.2 j (ready_mono hj hji)
      obtain ⟨hjun, oj, hoj, hall⟩ := mem_ready.1 hj
      have hnot : ∀ e ∈ oj.after, Region.binds md e = true → e.on ≠ i := fun e he hb heq => by
        have h1 := hall e he hb
        rw [heq, getD_both hun] at h1
        cases h1
      have h2 := wpOp_putIf hoj (hfree j oj hoj hji hjun hnot) (fun cs b => hsel i oi cs b hi) (fun cs b => hsel j oj cs b hoj) hQ hy h1
      have hfree' : ∀ k ok, ops[k]? = some ok → k ≠ i → (listed.setIfInBounds j true).getD k true = false →
          (∀ e ∈ ok.after, Region.binds md e = true → e.on ≠ i) → oi.apart ops ok = true := fun k ok hk hki hun hno => by
        refine hfree k ok hk hki ?_ hno
        by_cases hjk : j = k
        · subst hjk; exact hjun
        · rw [getD_set_ne true hjk] at hun; exact hun
      refine wpOp_mono (fun a' w' h3 => ⟨h3.2.1, ih (listed.setIfInBounds j true) a' w' (inv.set hj hjn) hfree' (ready_mono hr (Ne.symm hji)) h3.1 (h3.2.1 hjn) ?_⟩) h2
      rw [Array.setIfInBounds_comm _ _ hji]
      exact h3.2.2

/-- One operation comes up in state a. -/
def opL (P : Program) (ops : Array Oper) (Q : Exit → Act → World → Prop) (o : Oper) (K : Act → World → Prop) (a : Act) (w : World) : Prop :=
  if Region.wanted o (yielded ops a.tmps) then o.wp P a w K Q ∨ (o.asks P a w ∧ LetsOut Q) else K (a.put o.dst undef) w

theorem opL_wpOp {i : Nat} {o : Oper} (hi : ops[i]? = some o) {K : Act → World → Prop} {a : Act} {w : World} (h : opL P ops Q o K a w) : wpOp P ops Q i K a w := by
  unfold wpOp; simp only [hi]; exact h

/-- The loud operations (S behind each), then the last one. -/
def wpTail (P : Program) (ops : Array Oper) (Q : Exit → Act → World → Prop) (S : World → Prop) (last : Oper) : List Oper → Act → World → Prop
  | [], a, w => wpList P ops Q [last] a w
  | o :: rest, a, w => opL P ops Q o (fun a' w' => S w' ∧ wpTail P ops Q S last rest a' w') a w

theorem wpTail_nil {last : Oper} {a : Act} {w : World} (h : wpList P ops Q [last] a w) : wpTail P ops Q S last [] a w := h
/-- One loud operation, what follows behind a variable. -/
theorem wpTail_cons {last o : Oper} {rest : List Oper} {a : Act} {w : World}
    (h : ∀ K : Act → World → Prop, (∀ a w, S w → wpTail P ops Q S last rest a w → K a w) → if Region.wanted o (yielded ops a.tmps) then o.wp P a w K Q else K (a.put o.dst undef) w) : wpTail P ops Q S last (o :: rest) a w := by
  have := h _ (fun a w hS hW => (⟨hS, hW⟩ : S w ∧ wpTail P ops Q S last rest a w))
  unfold wpTail opL
  split
  · rename_i hw; rw [if_pos hw] at this; exact .inl this
  · rename_i hw; rw [if_neg hw] at this; exact this

/-- The same, of an operation without a guard. -/
theorem wpTail_step {last o : Oper} {rest : List Oper} {a : Act} {w : World} (hgd : o.guard = none)
    (h : ∀ K : Act → World → Prop, (∀ a w, S w → wpTail P ops Q S last rest a w → K a w) → o.wp P a w K Q) : wpTail P ops Q S last (o :: rest) a w :=
  wpTail_cons fun K hK => by
    rw [if_pos (by simp [Region.wanted, hgd])]
    exact h K hK

def tailB (md : Region.Mode) (ops : Array Oper) (n : Nat) : List Nat → Array Bool → Bool
  | [], listed => decide (Region.ready md ops listed = [n]) && (Region.ready md ops (listed.setIfInBounds n true)).isEmpty
  | k :: ks, listed => decide (Region.ready md ops listed = [k]) && decide (k < n) && tailB md ops n ks (listed.setIfInBounds k true)

/-- The heads may be taken one by one, in this order; then the tail is forced. -/
def headsB (md : Region.Mode) (ops : Array Oper) (n : Nat) (tail : List Nat) : List Nat → Array Bool → Bool
  | [], listed => tailB md ops n tail listed
  | k :: ks, listed => decide (k < n) && (Region.ready md ops listed).contains k && Region.free md ops listed k && noEnter ((ops[k]?).map (·.op) |>.getD (.alloc 0)) && headsB md ops n tail ks (listed.setIfInBounds k true)

theorem wpAnyHL_tail {n : Nat} {last : Oper} (hl : ops[n]? = some last) : ∀ (tail : List Nat) (os : List Oper) (listed : Array Bool) (a : Act) (w : World), tail.map (ops[·]?) = os.map some →
    tailB md ops n tail listed = true → wpTail P ops Q S last os a w → wpAnyHL P md ops Q S n (tail.length + 1) listed a w
  | [], os, listed, a, w, ho, hB, h => by
    obtain rfl : os = [] := by simpa using ho.symm
    simp only [tailB, Bool.and_eq_true, decide_eq_true_eq] at hB
    refine ⟨fun h1 => (by rw [hB.1] at h1; cases h1), fun i hi => ?_⟩
    rw [hB.1] at hi
    obtain rfl : i = n := by simpa using hi
    have hw : wpOp P ops Q i (Q .normal) a w := opL_wpOp hl h
    exact wpOp_mono (fun a' w' h' => ⟨fun hin => absurd hin (Nat.lt_irrefl _), by simpa using hB.2, h'⟩) hw
  | k :: ks, os, listed, a, w, ho, hB, h => by
    cases os with
    | nil => simp at ho
    | cons o os =>
      simp only [List.map_cons, List.cons.injEq] at ho
      simp only [tailB, Bool.and_eq_true, decide_eq_true_eq] at hB
      refine ⟨fun h1 => (by rw [hB.1.1] at h1; cases h1), fun i hi => ?_⟩
      rw [hB.1.1] at hi
      obtain rfl : i = k := by simpa using hi
      have hw : wpOp P ops Q i (fun a' w' => S w' ∧ wpTail P ops Q S last os a' w') a w := opL_wpOp ho.1 h
      exact wpOp_mono (fun a' w' h' => ⟨fun _ => h'.1, wpAnyHL_tail hl ks os _ a' w' ho.2 hB.2 h'.2⟩) hw

theorem wpAnyHL_heads {n : Nat} {last : Oper} (hl : ops[n]? = some last) (hsel : Region.noSelect ops = true) (hs : Region.sinkB md ops n = true) (hc : Region.chainB md ops n = true)
    (hQ : ∀ c d v a w, Q (.panic c) (Act.put a d v) w → Q (.panic c) a w) (tail : List Nat) (os : List Oper) (ht : tail.map (ops[·]?) = os.map some) :
    ∀ (hd : List Nat) (hos : List Oper) (listed : Array Bool) (a : Act) (w : World), hd.map (ops[·]?) = hos.map some → HeadInv md ops n listed → headsB md ops n tail hd listed = true → S w →
      wpQuiet P ops (fun w' => ∃ x : Wd S, w' = x.w) (fun a' => wpTail P ops Q S last os a' w) hos a → wpAnyHL P md ops Q S n (hd.length + (tail.length + 1)) listed a w
  | [], hos, listed, a, w, ho, inv, hB, hS, h => by
    obtain rfl : hos = [] := by simpa using ho.symm
    simp only [List.length_nil, Nat.zero_add]
    exact wpAnyHL_tail hl tail os listed a w ht hB h
  | k :: ks, hos, listed, a, w, ho, inv, hB, hS, h => by
    cases hos with
    | nil => simp at ho
    | cons o hos =>
      simp only [List.map_cons, List.cons.injEq] at ho
      simp only [headsB, Bool.and_eq_true, decide_eq_true_eq, ho.1, Option.map_some, Option.getD_some] at hB
      obtain ⟨⟨⟨⟨hkn, hr⟩, hf⟩, hne⟩, hB'⟩ := hB
      have hr' : k ∈ Region.ready md ops listed := by simpa using hr
      have hst : qOp P ops (fun w' => ∃ x : Wd S, w' = x.w) k (wpQuiet P ops (fun w' => ∃ x : Wd S, w' = x.w) (fun a' => wpTail P ops Q S last os a' w) hos) a := by unfold qOp; simp only [ho.1]; exact h
      obtain ⟨v, hy, hK⟩ := yieldsIn_of_qOp ho.1 hst
      have hy2 : YieldsIf P ops S o v a := by
        rcases hy with ⟨hw, hv⟩ | ⟨hw, hv⟩
        · refine .inl ⟨hw, fun w' hS' => ?_⟩
          have hq := hv w' ⟨⟨w', hS'⟩, rfl⟩
          unfold Oper.quietAt at hq
          cases hrun : (execOp a.eval o).run P w' with
          | ok nx w1 =>
            obtain ⟨u, rfl⟩ := noEnter_value hne w' nx w1 hrun
            rw [hrun] at hq
            obtain ⟨rfl, rfl⟩ := hq
            rfl
          | halt x w1 => rw [hrun] at hq; exact hq.elim
        · exact .inr ⟨hw, hv⟩
      have := wpAnyHL_heads hl hsel hs hc hQ tail os ht ks hos (listed.setIfInBounds k true) (a.put o.dst v) w ho.2 (inv.set hr' hkn) hB' hS hK
      rw [List.length_cons, show ks.length + 1 + (tail.length + 1) = ks.length + (tail.length + 1) + 1 by omega]
      exact wpAnyHL_first ho.1 (Region.noSelect_spec hsel) (fun c a w h => hQ c _ _ a w h) hs hc (Array.getElem?_eq_some_iff.1 hl).1 hkn _ listed a w inv (Region.free_spec ho.1 hf) hr' hy2 hS this

/-- THE RULE. hd: the heads' numbers in the order in which they are walked, hos: the heads; tail, os: the loud ones but the last; l: all operations. -/
theorem wp_region_held_last {id : Nat} {a : Act} {w : World} {l : List Oper} (S : World → Prop) (hd tail : List Nat) (hos os : List Oper) (last : Oper) (hm : P.follows .mixedOrders = true)
    (hB : (Region.noSelect l.toArray && Region.sinkB .any l.toArray (l.length - 1) && Region.chainB .any l.toArray (l.length - 1) && decide (hd.length + (tail.length + 1) = l.length) && headsB .any l.toArray (l.length - 1) tail hd (Array.replicate l.toArray.size false)) = true)
    (hl : l.toArray[l.length - 1]? = some last) (hh : hd.map (l.toArray[·]?) = hos.map some) (ht : tail.map (l.toArray[·]?) = os.map some)
    (hQ : ∀ c d v a w, Q (.panic c) (Act.put a d v) w → Q (.panic c) a w) (hS : S w.drew)
    (h : wpQuiet P l.toArray (fun w' => ∃ x : Wd S, w' = x.w) (fun a' => wpTail P l.toArray Q S last os a' w.drew) hos a) : (Code.region id l.toArray true).wp P Q a w := by
  simp only [Bool.and_eq_true, decide_eq_true_eq] at hB
  obtain ⟨⟨⟨⟨hsel, hs⟩, hc⟩, hlen⟩, hB'⟩ := hB
  have inv0 : HeadInv .any l.toArray (l.length - 1) (Array.replicate l.toArray.size false) :=
    ⟨by simp, fun j oj _ hl => (by rw [getD_replicate_false] at hl; cases hl), fun t _ ht => getD_in (by simpa using ht) (getD_replicate_false _ _)⟩
  refine wp_region_any hm (wpAny_of_HL (n := l.length - 1) (S := S) _ _ _ _ ?_)
  have := wpAnyHL_heads (md := .any) hl hsel hs hc hQ tail os ht hd hos _ a w.drew hh inv0 hB' hS h
  rw [hlen] at this
  simpa using this

/-- The same, the heads the first n, the loud ones all others. -/
theorem wp_region_held {id : Nat} {a : Act} {w : World} {l : List Oper} (S : World → Prop) (n : Nat) (last : Oper) (hm : P.follows .mixedOrders = true)
    (hB : (Region.noSelect l.toArray && Region.sinkB .any l.toArray (l.length - 1) && Region.chainB .any l.toArray (l.length - 1) && decide ((List.range n).length + ((List.range' n (l.length - 1 - n)).length + 1) = l.length) && headsB .any l.toArray (l.length - 1) (List.range' n (l.length - 1 - n)) (List.range n) (Array.replicate l.toArray.size false)) = true)
    (hl : l.toArray[l.length - 1]? = some last) (hh : (List.range n).map (l.toArray[·]?) = (l.take n).map some) (ht : (List.range' n (l.length - 1 - n)).map (l.toArray[·]?) = ((l.drop n).take (l.length - 1 - n)).map some)
    (hQ : ∀ c d v a w, Q (.panic c) (Act.put a d v) w → Q (.panic c) a w) (hS : S w.drew)
    (h : wpQuiet P l.toArray (fun w' => ∃ x : Wd S, w' = x.w) (fun a' => wpTail P l.toArray Q S last ((l.drop n).take (l.length - 1 - n)) a' w.drew) (l.take n) a) : (Code.region id l.toArray true).wp P Q a w :=
  wp_region_held_last S (List.range n) (List.range' n (l.length - 1 - n)) (l.take n) ((l.drop n).take (l.length - 1 - n)) last hm hB hl hh ht hQ hS h

end
end Go.Proofs.YthiaikbdghmnbaaDoor
