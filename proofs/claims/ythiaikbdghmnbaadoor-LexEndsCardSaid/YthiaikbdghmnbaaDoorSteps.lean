/- A region that draws its order: operations that only read or compute, and loud ones each of which is the only one that may come up where it stands: one walk serves every order. (XHeld's rule with the two sorts mixed.) -/
import Derived.Test.YthiaikbdghmnbaaDoorHeld
namespace Go.Proofs.YthiaikbdghmnbaaDoor
section
variable {P : Program} {ops : Array Oper} {Q : Exit → Act → World → Prop} {md : Region.Mode} {S : World → Prop}

/-- A run of heads, then a run of loud ones; and so on; at the end the last one. -/
def wpLoud (P : Program) (ops : Array Oper) (Q : Exit → Act → World → Prop) (S : World → Prop) (K : Act → World → Prop) : List Oper → Act → World → Prop
  | [], a, w => K a w
  | o :: rest, a, w => opL P ops Q o (fun a' w' => S w' ∧ wpLoud P ops Q S K rest a' w') a w

def wpSegs (P : Program) (ops : Array Oper) (Q : Exit → Act → World → Prop) (S : World → Prop) (last : Oper) : List (List Oper × List Oper) → Act → World → Prop
  | [], a, w => wpList P ops Q [last] a w
  | (hos, os) :: r, a, w => wpQuiet P ops (fun w' => ∃ x : Wd S, w' = x.w) (fun a' => wpLoud P ops Q S (wpSegs P ops Q S last r) os a' w) hos a

theorem wpLoud_nil {K : Act → World → Prop} {a : Act} {w : World} (h : K a w) : wpLoud P ops Q S K [] a w := h
theorem wpLoud_step {K : Act → World → Prop} {o : Oper} {rest : List Oper} {a : Act} {w : World} (hw : Region.wanted o (yielded ops a.tmps) = true)
    (h : ∀ J : Act → World → Prop, (∀ a w, S w → wpLoud P ops Q S K rest a w → J a w) → o.wp P a w J Q) : wpLoud P ops Q S K (o :: rest) a w := by
  have := h _ (fun a w hS hW => (⟨hS, hW⟩ : S w ∧ wpLoud P ops Q S K rest a w))
  unfold wpLoud opL
  rw [if_pos hw]
  exact .inl this
theorem wpSegs_nil {last : Oper} {a : Act} {w : World} (h : wpList P ops Q [last] a w) : wpSegs P ops Q S last [] a w := h
theorem wpSegs_cons {last : Oper} {hos os : List Oper} {r : List (List Oper × List Oper)} {a : Act} {w : World}
    (h : wpQuiet P ops (fun w' => ∃ x : Wd S, w' = x.w) (fun a' => wpLoud P ops Q S (wpSegs P ops Q S last r) os a' w) hos a) : wpSegs P ops Q S last ((hos, os) :: r) a w := h

/-- The numbers of the steps fit: heads may be taken there, loud ones are alone there, and the last one comes last. -/
def loudB (md : Region.Mode) (ops : Array Oper) (n : Nat) (K : Array Bool → Bool) : List Nat → Array Bool → Bool
  | [], listed => K listed
  | k :: ks, listed => decide (Region.ready md ops listed = [k]) && decide (k < n) && loudB md ops n K ks (listed.setIfInBounds k true)
def headB (md : Region.Mode) (ops : Array Oper) (n : Nat) (K : Array Bool → Bool) : List Nat → Array Bool → Bool
  | [], listed => K listed
  | k :: ks, listed => decide (k < n) && (Region.ready md ops listed).contains k && Region.free md ops listed k && noEnter ((ops[k]?).map (·.op) |>.getD (.alloc 0)) && headB md ops n K ks (listed.setIfInBounds k true)
def segsB (md : Region.Mode) (ops : Array Oper) (n : Nat) : List (List Nat × List Nat) → Array Bool → Bool
  | [], listed => decide (Region.ready md ops listed = [n]) && (Region.ready md ops (listed.setIfInBounds n true)).isEmpty
  | (hd, ld) :: r, listed => headB md ops n (loudB md ops n (segsB md ops n r) ld) hd listed

def segsLen : List (List Nat × List Nat) → Nat
  | [] => 1
  | (hd, ld) :: r => hd.length + (ld.length + segsLen r)

theorem wpAnyHL_loud {n : Nat} {K : Act → World → Prop} {KB : Array Bool → Bool} {m : Nat}
    (hK : ∀ listed a w, HeadInv md ops n listed → KB listed = true → S w → K a w → wpAnyHL P md ops Q S n m listed a w) :
    ∀ (ld : List Nat) (os : List Oper) (listed : Array Bool) (a : Act) (w : World), ld.map (ops[·]?) = os.map some → HeadInv md ops n listed → loudB md ops n KB ld listed = true → S w →
      wpLoud P ops Q S K os a w → wpAnyHL P md ops Q S n (ld.length + m) listed a w
  | [], os, listed, a, w, ho, inv, hB, hS, h => by
    obtain rfl : os = [] := by simpa using ho.symm
    simp only [List.length_nil, Nat.zero_add]
    exact hK listed a w inv hB hS h
  | k :: ks, os, listed, a, w, ho, inv, hB, hS, h => by
    cases os with
    | nil => simp at ho
    | cons o os =>
      simp only [List.map_cons, List.cons.injEq] at ho
      simp only [loudB, Bool.and_eq_true, decide_eq_true_eq] at hB
      obtain ⟨⟨hr, hkn⟩, hB'⟩ := hB
      rw [List.length_cons, show ks.length + 1 + m = ks.length + m + 1 by omega]
      refine ⟨fun h1 => (by rw [hr] at h1; cases h1), fun i hi => ?_⟩
      rw [hr] at hi
      obtain rfl : i = k := by simpa using hi
      have hmem : i ∈ Region.ready md ops listed := by rw [hr]; simp
      have hw : wpOp P ops Q i (fun a' w' => S w' ∧ wpLoud P ops Q S K os a' w') a w := opL_wpOp ho.1 h
      exact wpOp_mono (fun a' w' h' => ⟨fun _ => h'.1, wpAnyHL_loud hK ks os _ a' w' ho.2 (inv.set hmem hkn) hB' h'.1 h'.2⟩) hw

theorem wpAnyHL_head {n : Nat} {last : Oper} (hl : ops[n]? = some last) (hsel : Region.noSelect ops = true) (hs : Region.sinkB md ops n = true) (hc : Region.chainB md ops n = true)
    (hQ : ∀ c d v a w, Q (.panic c) (Act.put a d v) w → Q (.panic c) a w) {KP : Act → World → Prop} {KB : Array Bool → Bool} {m : Nat}
    (hK : ∀ listed a w, HeadInv md ops n listed → KB listed = true → S w → KP a w → wpAnyHL P md ops Q S n m listed a w) :
    ∀ (hd : List Nat) (hos : List Oper) (listed : Array Bool) (a : Act) (w : World), hd.map (ops[·]?) = hos.map some → HeadInv md ops n listed → headB md ops n KB hd listed = true → S w →
      wpQuiet P ops (fun w' => ∃ x : Wd S, w' = x.w) (fun a' => KP a' w) hos a → wpAnyHL P md ops Q S n (hd.length + m) listed a w
  | [], hos, listed, a, w, ho, inv, hB, hS, h => by
    obtain rfl : hos = [] := by simpa using ho.symm
    simp only [List.length_nil, Nat.zero_add]
    exact hK listed a w inv hB hS h
  | k :: ks, hos, listed, a, w, ho, inv, hB, hS, h => by
    cases hos with
    | nil => simp at ho
    | cons o hos =>
      simp only [List.map_cons, List.cons.injEq] at ho
      simp only [headB, Bool.and_eq_true, decide_eq_true_eq, ho.1, Option.map_some, Option.getD_some] at hB
      obtain ⟨⟨⟨⟨hkn, hr⟩, hf⟩, hne⟩, hB'⟩ := hB
      have hr' : k ∈ Region.ready md ops listed := by simpa using hr
      have hst : qOp P ops (fun w' => ∃ x : Wd S, w' = x.w) k (wpQuiet P ops (fun w' => ∃ x : Wd S, w' = x.w) (fun a' => KP a' w) hos) a := by unfold qOp; simp only [ho.1]; exact h
      obtain ⟨v, hy, hK'⟩ := yieldsIn_of_qOp ho.1 hst
      have hy2 : YieldsIf P ops S o v a := by
        rcases hy with ⟨hw, hv⟩ | ⟨hw, hv⟩
        · refine .inl ⟨hw, fun w' hS' => ?_⟩
          have hq := hv w' ⟨⟨w', hS'⟩, rfl⟩
          unfold Oper.quietAt at hq
          cases hrun : (execOp a.eval o).run P w' with
          | ok nx w1 =>
            obtain ⟨u, rfl⟩ := noEnter_value hne w' nx w1 hrun
            rw [hrun] at hq
            obtain ⟨rfl, rfl⟩ := hq
            rfl
          | halt x w1 => rw [hrun] at hq; exact hq.elim
        · exact .inr ⟨hw, hv⟩
      have := wpAnyHL_head hl hsel hs hc hQ hK ks hos (listed.setIfInBounds k true) (a.put o.dst v) w ho.2 (inv.set hr' hkn) hB' hS hK'
      rw [List.length_cons, show ks.length + 1 + m = ks.length + m + 1 by omega]
      exact wpAnyHL_first ho.1 (Region.noSelect_spec hsel) (fun c a w h => hQ c _ _ a w h) hs hc (Array.getElem?_eq_some_iff.1 hl).1 hkn _ listed a w inv (Region.free_spec ho.1 hf) hr' hy2 hS this

def segsFit (ops : Array Oper) : List (List Nat × List Nat) → List (List Oper × List Oper) → Prop
  | [], [] => True
  | (hd, ld) :: r, (hos, os) :: q => hd.map (ops[·]?) = hos.map some ∧ ld.map (ops[·]?) = os.map some ∧ segsFit ops r q
  | _, _ => False

theorem wpAnyHL_segs {n : Nat} {last : Oper} (hl : ops[n]? = some last) (hsel : Region.noSelect ops = true) (hs : Region.sinkB md ops n = true) (hc : Region.chainB md ops n = true)
    (hQ : ∀ c d v a w, Q (.panic c) (Act.put a d v) w → Q (.panic c) a w) :
    ∀ (sg : List (List Nat × List Nat)) (sq : List (List Oper × List Oper)) (listed : Array Bool) (a : Act) (w : World), segsFit ops sg sq → HeadInv md ops n listed → segsB md ops n sg listed = true → S w →
      wpSegs P ops Q S last sq a w → wpAnyHL P md ops Q S n (segsLen sg) listed a w
  | [], [], listed, a, w, _, _, hB, _, h => by
    simp only [segsB, Bool.and_eq_true, decide_eq_true_eq] at hB
    refine ⟨fun h1 => (by rw [hB.1] at h1; cases h1), fun i hi => ?_⟩
    rw [hB.1] at hi
    obtain rfl : i = n := by simpa using hi
    have hw : wpOp P ops Q i (Q .normal) a w := opL_wpOp hl h
    exact wpOp_mono (fun a' w' h' => ⟨fun hin => absurd hin (Nat.lt_irrefl _), by simpa using hB.2, h'⟩) hw
  | (hd, ld) :: r, (hos, os) :: q, listed, a, w, ⟨h1, h2, h3⟩, inv, hB, hS, h =>
    wpAnyHL_head hl hsel hs hc hQ (KP := fun a w => wpLoud P ops Q S (wpSegs P ops Q S last q) os a w) (KB := loudB md ops n (segsB md ops n r) ld) (m := ld.length + segsLen r)
      (fun listed a w inv hB hS h => wpAnyHL_loud (K := wpSegs P ops Q S last q) (KB := segsB md ops n r) (m := segsLen r) (fun listed a w inv hB hS h => wpAnyHL_segs hl hsel hs hc hQ r q listed a w h3 inv hB hS h) ld os listed a w h2 inv hB hS h)
      hd hos listed a w h1 inv hB hS h
  | [], _ :: _, _, _, _, h, _, _, _, _ => h.elim
  | _ :: _, [], _, _, _, h, _, _, _, _ => h.elim

/-- THE RULE. sg: the steps' numbers, in runs; sq: the same as operations. -/
theorem wp_region_segs {id : Nat} {a : Act} {w : World} {l : List Oper} (S : World → Prop) (sg : List (List Nat × List Nat)) (sq : List (List Oper × List Oper)) (last : Oper) (hm : P.follows .mixedOrders = true)
    (hB : (Region.noSelect l.toArray && Region.sinkB .any l.toArray (l.length - 1) && Region.chainB .any l.toArray (l.length - 1) && decide (segsLen sg = l.length) && segsB .any l.toArray (l.length - 1) sg (Array.replicate l.toArray.size false)) = true)
    (hl : l.toArray[l.length - 1]? = some last) (hf : segsFit l.toArray sg sq)
    (hQ : ∀ c d v a w, Q (.panic c) (Act.put a d v) w → Q (.panic c) a w) (hS : S w.drew)
    (h : wpSegs P l.toArray Q S last sq a w.drew) : (Code.region id l.toArray true).wp P Q a w := by
  simp only [Bool.and_eq_true, decide_eq_true_eq] at hB
  obtain ⟨⟨⟨⟨hsel, hs⟩, hc⟩, hlen⟩, hB'⟩ := hB
  have inv0 : HeadInv .any l.toArray (l.length - 1) (Array.replicate l.toArray.size false) :=
    ⟨by simp, fun j oj _ hl => (by rw [getD_replicate_false] at hl; cases hl), fun t _ ht => getD_in (by simpa using ht) (getD_replicate_false _ _)⟩
  refine wp_region_any hm (wpAny_of_HL (n := l.length - 1) (S := S) _ _ _ _ ?_)
  have := wpAnyHL_segs (md := .any) hl hsel hs hc hQ sg sq _ a w.drew hf inv0 hB' hS h
  rw [hlen] at this
  simpa using this

def segOps (l : List Oper) : List (List Nat × List Nat) → List (List Oper × List Oper)
  | [] => []
  | (hd, ld) :: r => (hd.filterMap (l[·]?), ld.filterMap (l[·]?)) :: segOps l r

theorem map_fit (l : List Oper) : ∀ hd : List Nat, (hd.all fun k => decide (k < l.length)) = true → hd.map (l.toArray[·]?) = (hd.filterMap (l[·]?)).map some
  | [], _ => rfl
  | k :: ks, h => by
    simp only [List.all_cons, Bool.and_eq_true, decide_eq_true_eq] at h
    have hk : l[k]? = some l[k] := List.getElem?_eq_getElem h.1
    rw [List.map_cons, List.filterMap_cons, hk, List.map_cons, map_fit l ks (by simpa using h.2)]
    simp [h.1]

theorem segsFit_of (l : List Oper) : ∀ sg : List (List Nat × List Nat), (sg.all fun p => (p.1.all fun k => decide (k < l.length)) && (p.2.all fun k => decide (k < l.length))) = true → segsFit l.toArray sg (segOps l sg)
  | [], _ => trivial
  | (hd, ld) :: r, h => by
    rw [List.all_cons, Bool.and_eq_true, Bool.and_eq_true] at h
    exact ⟨map_fit l hd h.1.1, map_fit l ld h.1.2, segsFit_of l r h.2⟩

/-- THE RULE, the operations by their numbers. -/
theorem wp_region_steps {id : Nat} {a : Act} {w : World} {l : List Oper} (S : World → Prop) (sg : List (List Nat × List Nat)) (last : Oper) (hm : P.follows .mixedOrders = true)
    (hB : (Region.noSelect l.toArray && Region.sinkB .any l.toArray (l.length - 1) && Region.chainB .any l.toArray (l.length - 1) && decide (segsLen sg = l.length) && segsB .any l.toArray (l.length - 1) sg (Array.replicate l.toArray.size false)) = true)
    (hl : l.toArray[l.length - 1]? = some last) (hf : (sg.all fun p => (p.1.all fun k => decide (k < l.length)) && (p.2.all fun k => decide (k < l.length))) = true)
    (hQ : ∀ c d v a w, Q (.panic c) (Act.put a d v) w → Q (.panic c) a w) (hS : S w.drew)
    (h : wpSegs P l.toArray Q S last (segOps l sg) a w.drew) : (Code.region id l.toArray true).wp P Q a w :=
  wp_region_segs S sg (segOps l sg) last hm hB hl (segsFit_of l sg hf) hQ hS h

end
end Go.Proofs.YthiaikbdghmnbaaDoor
