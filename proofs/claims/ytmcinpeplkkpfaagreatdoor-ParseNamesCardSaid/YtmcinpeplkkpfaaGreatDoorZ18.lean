/- Texts put together by wip/shake.py: PParams, PEqs, PCases, PRestTwo, PTails, PRes, PKindA: the walks and the laws that the claim's last theorem rests on. -/
import Derived.Test.YtmcinpeplkkpfaaGreatDoorZ17
import Derived.Test.YtmcinpeplkkpfaaGreatDoorZ10
namespace Go.Proofs.YtmcinpeplkkpfaaGreatDoor
open Go.RowKit
set_option linter.unusedVariables false
set_option linter.unusedSimpArgs false
theorem Ty.u_app : ∀ (t : Ty) (r x : U), (t.u r).app x = t.u (r.app x)
  | .mk _ _ (.mk _ _ _ _) _ _, _, _ => rfl

theorem luPm : LU encPm pmsU := LU.of rfl fun a l => by
  obtain ⟨n, t⟩ := a
  show U.str n (t.u (pmsU l)) = (U.str n (t.u .nil)).app (pmsU l)
  show U.str n (t.u (pmsU l)) = U.str n ((t.u .nil).app (pmsU l))
  rw [Ty.u_app]; rfl

theorem param_enters : ∀ args w, (callFunc 99 args).run Tryz.prog w = .ok (.enter 99 args) w := enters_of Tryz.func99 (by kernel_rfl) rfl

theorem params_cons (wd : ByteArray) (r : Bool) (p : Int) (k rest : F) : paramsS (.cons wd r p k rest) = match paramS wd r p k with
    | .error e => .error e
    | .ok a => match paramsS rest with
      | .error e => .error e
      | .ok l => .ok (a :: l) := by
  match k with
  | .nil => rfl
  | .cons _ _ _ _ .nil => rfl
  | .cons _ _ _ _ (.cons _ _ _ _ .nil) => rfl
  | .cons _ _ _ _ (.cons _ _ _ _ (.cons _ _ _ _ _)) => rfl

theorem params_each : ∀ f : F, paramsS f = eachS (fun wd r p k => paramS wd r p k) f
  | .nil => rfl
  | .cons wd r p k rest => by
    rw [params_cons, params_each rest]
    conv => rhs; unfold eachS
    cases paramS wd r p k with
    | error e => rfl
    | ok a => cases eachS (fun wd r p k => paramS wd r p k) rest <;> rfl

set_option maxRecDepth 100000 in
theorem params_any {n B : Nat} (ih : KindC n) (wd : ByteArray) (kv : Value) (r : Bool) (p : Int) (fb : Nat) (k : F) (w : World) (hkn : k.size ≤ n + 1) (hks : k.size ≤ 262144) (hB : B ≤ w.heap.size) (hfb : B ≤ fb) (hF : Fst w fb false 0) (hk : Sl (· < B) w kv k) :
    Calls Tryz.prog 49 #[nodeV wd kv r p fb] w (RdPost fb shpSl mkOne (fun l => .sl l.length (pmsU l) .nil) (rowOf r p (eachS (fun wd r p k => paramS wd r p k) k)) w) := by
  have HA := fun o => allPm_any (B := B) 99 encPm pmsU (fun wd r p k => paramS wd r p k) wd kv r p fb k (w.alloc o) (by simp; omega) hfb (Fst.ext (M := fun _ => False) hF ((Ext.refl _ w).alloc o) id) (hk.ext ((Ext.refl (fun _ => False) w).alloc o) (fun _ _ h => h)) hks luPm
    ⟨param_enters, fun i wd1 r1 p1 k1 kv1 w1 hg hB1 hF1 hsl hwd => param_any ih wd1 kv1 r1 p1 fb k1 w1 (by have := F.get_size hg; omega) (by have := F.get_size hg; omega) hB1 hfb hF1 hsl⟩
  have hx1 := fun o => (Ext.refl (fun _ => False) w).alloc o
  obtain ⟨a, cap, rfl, h1, h2⟩ := hk.shape
  generalize rowOf r p (eachS (fun wd r p k => paramS wd r p k) k) = res at *
  unfold nodeV at *
  go_enter Tryz.func49, Tryz.ntmps49
  go_wp2_with fail
  refine (HA _).mono ?_
  intro e w1 h
  have h2 := h.pre (hx1 _)
  obtain ⟨hx, xs, rfl, ⟨a5, n5, cap5, rfl⟩, hres⟩ := h2
  simp only [mkOne]
  have HX := Lib.hid hx
  have HR := Lib.hid hres
  clear HA h hx hres hx1
  go_wp2_with fail
  go_ret
  exact ⟨HX.out, [.slice a5 n5 cap5], rfl, ⟨_, _, _, rfl⟩, HR.out⟩

end Go.Proofs.YtmcinpeplkkpfaaGreatDoor

namespace Go.Proofs.YtmcinpeplkkpfaaGreatDoor
set_option linter.unusedVariables false
set_option linter.unusedSimpArgs false
def mapR {α β : Type} (f : α → β) : RR α → RR β | .ok a => .ok (f a) | .error e => .error e

def bindR {α β : Type} (x : RR α) (f : α → RR β) : RR β := match x with | .ok a => f a | .error e => .error e

def kindA (r : Bool) (p : Int) (k : F) : RR Ty := match k with
  | .cons wd0 r0 p0 _ (.cons wd1 r1 p1 k1 .nil) => if !r then .error p else match nameS wd0 r0 p0 with
    | .error e => .error e
    | .ok n => match termS k1 wd1 r1 p1 with
      | .error e => .error e
      | .ok t => .ok (.mk false n t [] [])
  | _ => .error p

def kindB (p : Int) (k : F) : RR Ty := match k with
  | .cons _ _ _ _ (.cons _ r1 p1 k1 (.cons wd2 r2 p2 k2 .nil)) => match rowOf r1 p1 (paramsS k1) with
    | .error e => .error e
    | .ok l => match kindS k2 wd2 r2 p2 with
      | .error e => .error e
      | .ok t => .ok (.mk true ByteArray.empty .none l [t])
  | _ => .error p

theorem kind_eq (k : F) (wd : ByteArray) (r : Bool) (p : Int) : kindS k wd r p = if !wIs (headW r k) [45, 62] then kindA r p k else kindB p k := by
  match k with
  | .nil => rfl
  | .cons _ _ _ _ .nil => rfl
  | .cons _ _ _ _ (.cons _ _ _ _ .nil) => rfl
  | .cons _ _ _ _ (.cons _ _ _ _ (.cons _ _ _ _ .nil)) => rfl
  | .cons _ _ _ _ (.cons _ _ _ _ (.cons _ _ _ _ (.cons _ _ _ _ _))) => rfl

def letB (p : Int) (k : F) : RR Ex := match k with
  | .cons _ _ _ _ (.cons wd1 r1 p1 _ (.cons wd2 r2 p2 k2 (.cons wd3 r3 p3 k3 .nil))) => match nameS wd1 r1 p1 with
    | .error e => .error e
    | .ok n => match kindS k2 wd2 r2 p2 with
      | .error e => .error e
      | .ok t => match rightS k3 wd3 r3 p3 with
        | .error e => .error e
        | .ok s => .ok (.mk 1 n [t] [s] .none [] [])
  | _ => .error p

def letE (_ : ByteArray) (r : Bool) (p : Int) (k : F) : RR Ex := if !wIs (headW r k) [108, 101, 116] then .error p else letB p k

def F.init : F → F
  | .nil => .nil
  | .cons _ _ _ _ .nil => .nil
  | .cons wd r p k (.cons a b c d e) => .cons wd r p k (F.cons a b c d e).init

theorem F.len_init : ∀ f : F, f.init.len = f.len - 1
  | .nil => rfl
  | .cons _ _ _ _ .nil => rfl
  | .cons wd r p k (.cons a b c d e) => by
    have := F.len_init (.cons a b c d e)
    simp only [F.init, F.len] at this ⊢
    omega

def lastR (p : Int) (w : ByteArray) (k : F) : RR Ex :=
  match k with
  | .cons _ _ _ _ (.cons wd1 r1 p1 _ rest2) =>
    if wIs w [114, 101, 116] && rest2.len == 0 then mapR (fun a => .mk 2 ByteArray.empty [] [] a [] []) (atomS wd1 r1 p1)
    else if wIs w [105, 102] && rest2.len == 2 then bindR (atomS wd1 r1 p1) (fun a => mapR (fun l => .mk 3 ByteArray.empty [] [] a [] l) (bodiesS rest2))
    else if wIs w [109, 97, 116, 99, 104] then bindR (atomS wd1 r1 p1) (fun a => mapR (fun l => .mk 4 ByteArray.empty [] [] a l []) (armsS rest2))
    else .error p
  | _ => .error p

theorem last_eq (k : F) (r : Bool) (p : Int) : lastS k r p = lastR p (headW r k) k := by
  match k with
  | .nil => rfl
  | .cons wd0 r0 p0 k0 .nil =>
    have h : headW r (.cons wd0 r0 p0 k0 .nil) = if r0 || !r then ByteArray.empty else wd0 := by cases r <;> cases r0 <;> rfl
    rw [h]
    show lastS (.cons wd0 r0 p0 k0 .nil) r p = .error p
    rw [show lastS (.cons wd0 r0 p0 k0 .nil) r p = (if wIs (if r0 || !r then ByteArray.empty else wd0) [114, 101, 116] && false then .error p else if wIs (if r0 || !r then ByteArray.empty else wd0) [105, 102] && false then .error p else if wIs (if r0 || !r then ByteArray.empty else wd0) [109, 97, 116, 99, 104] && false then .error p else .error p : RR Ex) from rfl]
    simp
  | .cons wd0 r0 p0 k0 (.cons wd1 r1 p1 k1 rest2) =>
    have h : headW r (.cons wd0 r0 p0 k0 (.cons wd1 r1 p1 k1 rest2)) = if r0 || !r then ByteArray.empty else wd0 := by cases r <;> cases r0 <;> rfl
    rw [h]
    generalize hw : (if r0 || !r then ByteArray.empty else wd0) = s
    have e : lastS (.cons wd0 r0 p0 k0 (.cons wd1 r1 p1 k1 rest2)) r p =
      (if wIs (if r0 || !r then ByteArray.empty else wd0) [114, 101, 116] && (rest2.len + 1) == 1 then (match atomS wd1 r1 p1 with
        | .error e => .error e
        | .ok a => .ok (.mk 2 ByteArray.empty [] [] a [] []))
      else if wIs (if r0 || !r then ByteArray.empty else wd0) [105, 102] && (rest2.len + 1) == 3 then (match atomS wd1 r1 p1 with
        | .error e => .error e
        | .ok a => match bodiesS rest2 with
          | .error e => .error e
          | .ok l => .ok (.mk 3 ByteArray.empty [] [] a [] l))
      else if wIs (if r0 || !r then ByteArray.empty else wd0) [109, 97, 116, 99, 104] && (rest2.len + 1) != 0 then (match atomS wd1 r1 p1 with
        | .error e => .error e
        | .ok a => match armsS rest2 with
          | .error e => .error e
          | .ok l => .ok (.mk 4 ByteArray.empty [] [] a l []))
      else .error p) := rfl
    rw [e, hw]
    show _ = (if wIs s [114, 101, 116] && rest2.len == 0 then mapR (fun a => .mk 2 ByteArray.empty [] [] a [] []) (atomS wd1 r1 p1)
      else if wIs s [105, 102] && rest2.len == 2 then bindR (atomS wd1 r1 p1) (fun a => mapR (fun l => .mk 3 ByteArray.empty [] [] a [] l) (bodiesS rest2))
      else if wIs s [109, 97, 116, 99, 104] then bindR (atomS wd1 r1 p1) (fun a => mapR (fun l => .mk 4 ByteArray.empty [] [] a l []) (armsS rest2))
      else .error p : RR Ex)
    have e1 : ((rest2.len + 1) == 1) = (rest2.len == 0) := by simp
    have e2 : ((rest2.len + 1) == 3) = (rest2.len == 2) := by simp
    have e3 : ((rest2.len + 1) != 0) = true := by simp
    rw [e1, e2, e3, Bool.and_true]
    cases atomS wd1 r1 p1 with
    | error e => rfl
    | ok a => cases bodiesS rest2 <;> cases armsS rest2 <;> rfl

end Go.Proofs.YtmcinpeplkkpfaaGreatDoor

namespace Go.Proofs.YtmcinpeplkkpfaaGreatDoor
set_option linter.unusedVariables false
set_option linter.unusedSimpArgs false
def encPms (l : List Pm) : U := .sl l.length (pmsU l) .nil

def encEx (e : Ex) : U := e.u .nil

def funB (p : Int) (k : F) : RR Fu := match k with
  | .cons _ _ _ _ (.cons wd1 r1 p1 _ (.cons _ r2 p2 k2 (.cons wd3 r3 p3 k3 (.cons _ r4 p4 k4 .nil)))) => match nameS wd1 r1 p1 with
    | .error e => .error e
    | .ok n => match rowOf r2 p2 (paramsS k2) with
      | .error e => .error e
      | .ok l => match kindS k3 wd3 r3 p3 with
        | .error e => .error e
        | .ok t => match bodyOf r4 p4 k4 (bodyS k4) with
          | .error e => .error e
          | .ok b => .ok ⟨n, l, t, b⟩
  | _ => .error p

theorem kindA_cases (br0 bt0 br1 bt1 b1 : Nat) (r : Bool) (p : Int) (k : F) :
    (∃ q, partsR [slotStr br0 bt0 b1 1 encStr (fun wd r p _ => nameS wd r p), slotTm br1 bt1 b1 2 encTm (fun wd r p k => termS k wd r p)] r p k = .error q ∧ kindA r p k = .error q) ∨
    (∃ u0 u1, partsR [slotStr br0 bt0 b1 1 encStr (fun wd r p _ => nameS wd r p), slotTm br1 bt1 b1 2 encTm (fun wd r p k => termS k wd r p)] r p k = .ok [encStr u0, encTm u1] ∧ kindA r p k = .ok (.mk false u0 u1 [] [])) := by
  unfold partsR
  match k with
  | .nil => exact .inl ⟨p, by simp [F.len], rfl⟩
  | .cons _ _ _ _ .nil => exact .inl ⟨p, by simp [F.len], rfl⟩
  | .cons _ _ _ _ (.cons _ _ _ _ (.cons _ _ _ _ (k9))) => exact .inl ⟨p, by simp [F.len], rfl⟩
  | .cons wd0 r0 p0 k0 (.cons wd1 r1 p1 k1 .nil) =>
    cases r with
    | false => exact .inl ⟨p, by simp, rfl⟩
    | true =>
      rw [if_pos ⟨rfl, rfl⟩]
      unfold kindA
      cases h0 : nameS wd0 r0 p0 with
      | error q => exact .inl ⟨q, by simp [slotsR, slotStr, slotTm, mapU, h0], by simp [h0]⟩
      | ok u0 =>
        cases h1 : termS k1 wd1 r1 p1 with
        | error q => exact .inl ⟨q, by simp [slotsR, slotStr, slotTm, mapU, h0, h1], by simp [h0, h1]⟩
        | ok u1 =>
          exact .inr ⟨u0, u1, by simp [slotsR, slotStr, slotTm, mapU, h0, h1], by simp [h0, h1]⟩

theorem kindB_cases (br1 bt1 br2 bt2 b1 b2 : Nat) (r : Bool) (p : Int) (k : F) :
    (∃ q, partsR [slotSkip b1, slotPms br1 bt1 b1 7 encPms (fun wd r p k => rowOf r p (paramsS k)), slotTy br2 bt2 b2 0 encTy (fun wd r p k => kindS k wd r p)] true p k = .error q ∧ kindB p k = .error q) ∨
    (∃ u1 u2, partsR [slotSkip b1, slotPms br1 bt1 b1 7 encPms (fun wd r p k => rowOf r p (paramsS k)), slotTy br2 bt2 b2 0 encTy (fun wd r p k => kindS k wd r p)] true p k = .ok [.nil, encPms u1, encTy u2] ∧ kindB p k = .ok (.mk true ByteArray.empty .none u1 [u2])) := by
  unfold partsR
  match k with
  | .nil => exact .inl ⟨p, by simp [F.len], rfl⟩
  | .cons _ _ _ _ .nil => exact .inl ⟨p, by simp [F.len], rfl⟩
  | .cons _ _ _ _ (.cons _ _ _ _ .nil) => exact .inl ⟨p, by simp [F.len], rfl⟩
  | .cons _ _ _ _ (.cons _ _ _ _ (.cons _ _ _ _ (.cons _ _ _ _ (k9)))) => exact .inl ⟨p, by simp [F.len], rfl⟩
  | .cons wd0 r0 p0 k0 (.cons wd1 r1 p1 k1 (.cons wd2 r2 p2 k2 .nil)) =>
    rw [if_pos ⟨rfl, rfl⟩]
    unfold kindB
    cases h1 : rowOf r1 p1 (paramsS k1) with
    | error q => exact .inl ⟨q, by simp [slotsR, slotPms, slotSkip, slotTy, mapU, h1], by simp [h1]⟩
    | ok u1 =>
      cases h2 : kindS k2 wd2 r2 p2 with
      | error q => exact .inl ⟨q, by simp [slotsR, slotPms, slotSkip, slotTy, mapU, h1, h2], by simp [h1, h2]⟩
      | ok u2 =>
        exact .inr ⟨u1, u2, by simp [slotsR, slotPms, slotSkip, slotTy, mapU, h1, h2], by simp [h1, h2]⟩

theorem fun_cases (br1 bt1 br2 bt2 br3 bt3 br4 bt4 b1 : Nat) (r : Bool) (p : Int) (k : F) :
    (∃ q, partsR [slotSkip b1, slotStr br1 bt1 b1 0 encStr (fun wd r p _ => nameS wd r p), slotPms br2 bt2 b1 1 encPms (fun wd r p k => rowOf r p (paramsS k)), slotTy br3 bt3 b1 2 encTy (fun wd r p k => kindS k wd r p), slotEx br4 bt4 b1 11 encEx (fun wd r p k => bodyOf r p k (bodyS k))] true p k = .error q ∧ funB p k = .error q) ∨
    (∃ u1 u2 u3 u4, partsR [slotSkip b1, slotStr br1 bt1 b1 0 encStr (fun wd r p _ => nameS wd r p), slotPms br2 bt2 b1 1 encPms (fun wd r p k => rowOf r p (paramsS k)), slotTy br3 bt3 b1 2 encTy (fun wd r p k => kindS k wd r p), slotEx br4 bt4 b1 11 encEx (fun wd r p k => bodyOf r p k (bodyS k))] true p k = .ok [.nil, encStr u1, encPms u2, encTy u3, encEx u4] ∧ funB p k = .ok (⟨u1, u2, u3, u4⟩)) := by
  unfold partsR
  match k with
  | .nil => exact .inl ⟨p, by simp [F.len], rfl⟩
  | .cons _ _ _ _ .nil => exact .inl ⟨p, by simp [F.len], rfl⟩
  | .cons _ _ _ _ (.cons _ _ _ _ .nil) => exact .inl ⟨p, by simp [F.len], rfl⟩
  | .cons _ _ _ _ (.cons _ _ _ _ (.cons _ _ _ _ .nil)) => exact .inl ⟨p, by simp [F.len], rfl⟩
  | .cons _ _ _ _ (.cons _ _ _ _ (.cons _ _ _ _ (.cons _ _ _ _ .nil))) => exact .inl ⟨p, by simp [F.len], rfl⟩
  | .cons _ _ _ _ (.cons _ _ _ _ (.cons _ _ _ _ (.cons _ _ _ _ (.cons _ _ _ _ (.cons _ _ _ _ (k9)))))) => exact .inl ⟨p, by simp [F.len], rfl⟩
  | .cons wd0 r0 p0 k0 (.cons wd1 r1 p1 k1 (.cons wd2 r2 p2 k2 (.cons wd3 r3 p3 k3 (.cons wd4 r4 p4 k4 .nil)))) =>
    rw [if_pos ⟨rfl, rfl⟩]
    unfold funB
    cases h1 : nameS wd1 r1 p1 with
    | error q => exact .inl ⟨q, by simp [slotsR, slotEx, slotPms, slotSkip, slotStr, slotTy, mapU, h1], by simp [h1]⟩
    | ok u1 =>
      cases h2 : rowOf r2 p2 (paramsS k2) with
      | error q => exact .inl ⟨q, by simp [slotsR, slotEx, slotPms, slotSkip, slotStr, slotTy, mapU, h1, h2], by simp [h1, h2]⟩
      | ok u2 =>
        cases h3 : kindS k3 wd3 r3 p3 with
        | error q => exact .inl ⟨q, by simp [slotsR, slotEx, slotPms, slotSkip, slotStr, slotTy, mapU, h1, h2, h3], by simp [h1, h2, h3]⟩
        | ok u3 =>
          cases h4 : bodyOf r4 p4 k4 (bodyS k4) with
          | error q => exact .inl ⟨q, by simp [slotsR, slotEx, slotPms, slotSkip, slotStr, slotTy, mapU, h1, h2, h3, h4], by simp [h1, h2, h3, h4]⟩
          | ok u4 =>
            exact .inr ⟨u1, u2, u3, u4, by simp [slotsR, slotEx, slotPms, slotSkip, slotStr, slotTy, mapU, h1, h2, h3, h4], by simp [h1, h2, h3, h4]⟩

end Go.Proofs.YtmcinpeplkkpfaaGreatDoor

namespace Go.Proofs.YtmcinpeplkkpfaaGreatDoor
open Go.RowKit
set_option linter.unusedVariables false
def FstR (w : World) (fb : Nat) {β : Type} (x : RR β) : Prop := match x with | .ok _ => Fst w fb false 0 | .error q => Fst w fb true q

theorem FstR.ext {M : Nat → Prop} {w w' : World} {fb : Nat} {β : Type} {x : RR β} (h : FstR w fb x) (he : Ext M w w') (hm : ¬ M fb) : FstR w' fb x := by
  cases x with
  | ok _ => exact Fst.ext h he hm
  | error q => exact Fst.ext h he hm

theorem FstR.setOther {w : World} {fb : Nat} {β : Type} {x : RR β} (h : FstR w fb x) (p : Addr) (hp : p.block ≠ fb) (u : Value) : FstR (w.setCell p u) fb x := by
  cases x with
  | ok _ => exact Fst.setOther h p hp u
  | error q => exact Fst.setOther h p hp u

theorem FstR.lt {w : World} {fb : Nat} {β : Type} {x : RR β} (h : FstR w fb x) : fb < w.heap.size := by
  cases x with
  | ok _ => exact Blk.lt h
  | error q => exact Blk.lt h

theorem FstR.blk {w : World} {fb : Nat} {β : Type} {x : RR β} (h : FstR w fb x) : ∃ bad q, Fst w fb bad q := by
  cases x with
  | ok _ => exact ⟨_, _, h⟩
  | error q => exact ⟨_, _, h⟩

theorem RdPost.fst {fb : Nat} {shp : List Value → Prop} {mk : List Value → Value} {α : Type} {enc : α → U} {res : RR α} {w w' : World} {xs : List Value} (h : match res with
    | .ok a => Fst w' fb false 0 ∧ Rep (fun b => w.heap.size ≤ b) w' (enc a) xs
    | .error q => Fst w' fb true q) : FstR w' fb res := by
  cases res with
  | ok a => exact h.1
  | error q => exact h

end Go.Proofs.YtmcinpeplkkpfaaGreatDoor

namespace Go.Proofs.YtmcinpeplkkpfaaGreatDoor
open Go.RowKit
set_option linter.unusedVariables false
theorem tm_tail {D : Nat → Prop} {w : World} {t : Tm} {xs ys : List Value} {r : U} (h : Rep D w (encTm t) xs) (h2 : Rep D w r ys) : Rep D w (t.u r) (xs ++ ys) := by
  have := Rep.app h h2
  unfold encTm at this
  rwa [Tm.u_app] at this

theorem ty_tail {D : Nat → Prop} {w : World} {t : Ty} {xs ys : List Value} {r : U} (h : Rep D w (encTy t) xs) (h2 : Rep D w r ys) : Rep D w (t.u r) (xs ++ ys) := by
  have := Rep.app h h2
  unfold encTy at this
  rwa [Ty.u_app] at this

theorem held_nil (D : Nat → Prop) (w : World) : Held D w (.slice none 0 0) 0 [] := ⟨none, 0, rfl, Nat.le_refl _, Nat.zero_le _, fun _ => rfl, .inl rfl⟩

theorem held_one {D : Nat → Prop} {w : World} {b : Nat} {cs : List Value} {t : TypeId} (hb : Blk w b cs.toArray t) (hD : D b) : Held D w (.slice (some ⟨b, 0, none⟩) 1 1) 1 cs :=
  ⟨some ⟨b, 0, none⟩, 1, rfl, Nat.le_refl 1, by decide, fun h => by simp at h, .inr ⟨b, 0, rfl, hD, fun i x hx => by rw [Nat.zero_add, hb.cell i]; simpa using hx⟩⟩

theorem Ao.u_app : ∀ (t : Ao) (r x : U), (t.u r).app x = t.u (r.app x)
  | ⟨_, _, _, _⟩, _, _ => rfl

theorem ao_tail {D : Nat → Prop} {w : World} {t : Ao} {xs ys : List Value} {r : U} (h : Rep D w (encAo t) xs) (h2 : Rep D w r ys) : Rep D w (t.u r) (xs ++ ys) := by
  have := Rep.app h h2
  unfold encAo at this
  rwa [Ao.u_app] at this

theorem Ex.u_app : ∀ (t : Ex) (r x : U), (t.u r).app x = t.u (r.app x)
  | .mk _ _ _ _ ⟨_, _, _, _⟩ _ _, _, _ => rfl

theorem Rh.u_app : ∀ (t : Rh) (r x : U), (t.u r).app x = t.u (r.app x)
  | .mk _ _ _ _ _ _ _, _, _ => rfl

theorem Ar.u_app : ∀ (t : Ar) (r x : U), (t.u r).app x = t.u (r.app x)
  | .mk _ _ _, _, _ => rfl

theorem arrN9 {cs : Array Value} (hn : cs.size = 9) (h : ∀ x ∈ cs, x.oneCell' = true) : ∃ x0 x1 x2 x3 x4 x5 x6 x7 x8, cs = #[x0, x1, x2, x3, x4, x5, x6, x7, x8] ∧ x0.oneCell' = true ∧ x1.oneCell' = true ∧ x2.oneCell' = true ∧ x3.oneCell' = true ∧ x4.oneCell' = true ∧ x5.oneCell' = true ∧ x6.oneCell' = true ∧ x7.oneCell' = true ∧ x8.oneCell' = true := by
  obtain ⟨x0, x1, x2, x3, x4, x5, x6, x7, x8, e, h⟩ := len9 (xs := cs.toList) ⟨by simpa using hn, fun x hx => h x (by simpa using hx)⟩
  exact ⟨x0, x1, x2, x3, x4, x5, x6, x7, x8, Array.ext' e, h⟩

end Go.Proofs.YtmcinpeplkkpfaaGreatDoor

namespace Go.Proofs.YtmcinpeplkkpfaaGreatDoor
open Go.RowKit
set_option linter.unusedVariables false
theorem results_cell {P : Program} {fn : Func} {i : Tmp} {t : TypeId} (h : fn.results = #[.cell i t]) {tmps : Array Value} {b : Nat} (hp : tmps.getD i undef = .pointer (some ⟨b, 0, none⟩)) {cs : List Value} {T : TypeId} {w : World}
    (ha : ∀ w, (isAgg t).run P w = .ok true w) (hs : ∀ w, (sizeOf t).run P w = .ok cs.length w) (hb : Blk w b cs.toArray T) : (results fn tmps).run P w = .ok (.agg cs.toArray) w := by
  have hl : (loadCells ⟨b, 0, none⟩ cs.length).run P w = .ok cs.toArray w := run_loadCells_list w ⟨b, 0, none⟩ cs (fun j v hj => by
    rw [Addr.add_lit, Nat.zero_add, hb.cell j]; simpa using hj)
  have h1 : (loadVar t ⟨b, 0, none⟩).run P w = .ok (.agg cs.toArray) w := by
    simp only [loadVar, Sem.run_bind, ha, Result.andThen, if_true, hs]
    simp [hl]
  rw [Array.getD_eq_getD_getElem?] at hp
  simp [results, h, hp, asAddr, h1]

theorem ones_nil : ∀ x ∈ ([] : List Value), x.oneCell' = true := fun x h => by cases h

theorem ones_cons {y : Value} {xs : List Value} (h : y.oneCell' = true) (hs : ∀ x ∈ xs, x.oneCell' = true) : ∀ x ∈ y :: xs, x.oneCell' = true := fun x hx => by
  rcases List.mem_cons.1 hx with h' | h'
  · rw [h']; exact h
  · exact hs x h'

theorem sets_all {b : Nat} {T : TypeId} : ∀ (xs pre cs : List Value) (w : World), cs.length = xs.length → Blk w b (pre ++ cs).toArray T → Blk (sets w b pre.length xs) b (pre ++ xs).toArray T
  | [], pre, cs, w, h, hb => by
    have : cs = [] := by simpa using h
    subst this; exact hb
  | x :: xs, pre, c :: cs, w, h, hb => by
    have h1 := hb.set pre.length x
    have e : (pre ++ c :: cs).toArray.setIfInBounds pre.length x = ((pre ++ [x]) ++ cs).toArray := by simp
    rw [e] at h1
    have h2 := sets_all xs (pre ++ [x]) cs _ (by simpa using h) h1
    rw [List.append_assoc] at h2
    simpa [sets] using h2

theorem sets_new {b : Nat} {T : TypeId} (xs : List Value) {cs : List Value} {w : World} (h : Blk w b cs.toArray T) (hl : cs.length = xs.length) : Blk (sets w b 0 xs) b xs.toArray T := sets_all xs [] cs w hl h

end Go.Proofs.YtmcinpeplkkpfaaGreatDoor

namespace Go.Proofs.YtmcinpeplkkpfaaGreatDoor
open Go.RowKit
set_option linter.unusedVariables false
set_option linter.unusedSimpArgs false
set_option maxRecDepth 100000 in
set_option maxHeartbeats 2000000 in
theorem kind_plain {B : Nat} (wd : ByteArray) (kv : Value) (r : Bool) (p : Int) (fb : Nat) (k : F) (w : World) (hks : k.size ≤ 262144) (hB : B ≤ w.heap.size) (hfb : B ≤ fb) (hF : Fst w fb false 0) (hk : Sl (· < B) w kv k) (e1 : wIs (headW r k) [45, 62] = false) :
    Calls Tryz.prog 51 #[nodeV wd kv r p fb] w (RdPost fb (shpN 9) mkAgg encTy (kindA r p k) w) := by
  have hkl := F.len_le_size k
  have HHD := Lib.hid (fun w' (hx : Ext (fun _ => False) w w') => head_any wd kv r p fb k w' (hk.ext hx (fun _ _ h => h)))
  obtain ⟨a, cap, rfl, h1, h2⟩ := hk.shape
  have HK := Lib.hid hk
  obtain ⟨res, hres0⟩ : ∃ res, res = kindA r p k := ⟨_, rfl⟩
  rw [← hres0]
  have HRES := Lib.hid hres0
  clear hres0
  generalize headW r k = s at *
  rw [wIs_iff] at e1
  have e1' : ¬ s.toList = [45, 62] := by simpa using e1
  have hx1 := (Ext.refl (fun _ => False) w).alloc (.cells #[.string wd, .slice a k.len cap, .bool r, .int .i64 p, .pointer (some ⟨fb, 0, none⟩)] 57)
  have hx2 := hx1.alloc (.cells #[.bool false, .string ⟨#[]⟩, .int .u8 0, .string ⟨#[]⟩, .bool false, .slice none 0 0, .slice none 0 0, .slice none 0 0, .slice none 0 0] 117)
  have hb2 := Blk.new (w.alloc (.cells #[.string wd, .slice a k.len cap, .bool r, .int .i64 p, .pointer (some ⟨fb, 0, none⟩)] 57)) #[.bool false, .string ⟨#[]⟩, .int .u8 0, .string ⟨#[]⟩, .bool false, .slice none 0 0, .slice none 0 0, .slice none 0 0, .slice none 0 0] 117
  have hn2 := (NodeIn.new w wd (.slice a k.len cap) r p fb).alloc (.cells #[.bool false, .string ⟨#[]⟩, .int .u8 0, .string ⟨#[]⟩, .bool false, .slice none 0 0, .slice none 0 0, .slice none 0 0, .slice none 0 0] 117)
  have hz : (w.alloc (.cells #[.string wd, .slice a k.len cap, .bool r, .int .i64 p, .pointer (some ⟨fb, 0, none⟩)] 57)).heap.size = w.heap.size + 1 := by simp
  have hz2 : ((w.alloc (.cells #[.string wd, .slice a k.len cap, .bool r, .int .i64 p, .pointer (some ⟨fb, 0, none⟩)] 57)).alloc (.cells #[.bool false, .string ⟨#[]⟩, .int .u8 0, .string ⟨#[]⟩, .bool false, .slice none 0 0, .slice none 0 0, .slice none 0 0, .slice none 0 0] 117)).heap.size = w.heap.size + 2 := by simp
  rw [hz] at hb2
  have hF2 := Fst.ext hF hx2 id
  have hfl := Blk.lt hF
  have HNB : w.heap.size + 1 ≠ fb ∧ w.heap.size ≠ fb := by omega
  have HZ2 := Lib.hid hz2
  clear hz hz2 hk h1 h2 hx1
  unfold nodeV at *
  go_enter Tryz.func51, Tryz.ntmps51
  go_wp2_with fail
  refine (HHD.out _ hx2).mono ?_
  rintro e w3 ⟨rfl, hx3⟩
  have hb3 := hb2.ext hx3 id
  have hn3 := NodeIn.ext hn2 hx3 id
  have HF3 := Lib.hid (Fst.ext hF2 hx3 id)
  have HX3 := Lib.hid (hx2.trans' hx3)
  have hs3 := hx3.size
  rw [HZ2.out] at hs3
  have l0 : w.heap.size < w3.heap.size := by omega
  have l1 : w.heap.size + 1 < w3.heap.size := by omega
  have c0 := hb3.cell 0
  have f0 := hb3.frozen 0
  have c1 := hb3.cell 1
  have f1 := hb3.frozen 1
  have c2 := hb3.cell 2
  have f2 := hb3.frozen 2
  have c3 := hb3.cell 3
  have f3 := hb3.frozen 3
  have c4 := hb3.cell 4
  have f4 := hb3.frozen 4
  have c5 := hb3.cell 5
  have f5 := hb3.frozen 5
  have c6 := hb3.cell 6
  have f6 := hb3.frozen 6
  have c7 := hb3.cell 7
  have f7 := hb3.frozen 7
  have c8 := hb3.cell 8
  have f8 := hb3.frozen 8
  simp only [List.getElem?_toArray, List.getElem?_cons_zero, List.getElem?_cons_succ] at c0 c1 c2 c3 c4 c5 c6 c7 c8
  obtain ⟨n0, n1, n2, n3', n4⟩ := hn3.cells
  clear hx2 hb2 hn2 hF2 hx3
  clear c0 f0 c1 f1 c2 f2 c3 f3 c4 f4 c5 f5 c6 f6 c7 f7 c8 f8 n0 n1 n2 n3' n4
  have HB0 := Lib.hid hb3
  have HN4 := Lib.hid hn3
  have HF4 := HF3
  have HX4 := HX3
  clear HF3 HX3 hb3 hn3 HZ2 HHD
  go_wp2_with fail
  obtain ⟨m0, m1, m2, m3, m4⟩ := NodeIn.cells HN4.out
  haveI ne : Nonempty (Wd (fun x => Ext (fun _ => False) w3 x)) := ⟨⟨w3, Ext.refl _ _⟩⟩
  have q0 : ∀ x : (Wd (fun x => Ext (fun _ => False) w3 x)), x.w.cell? ⟨w.heap.size, 0, none⟩ = some (.string wd) := fun x => x.ok.cellSome m0 id
  have q1 : ∀ x : (Wd (fun x => Ext (fun _ => False) w3 x)), x.w.cell? ⟨w.heap.size, 1, none⟩ = some (.slice a k.len cap) := fun x => x.ok.cellSome m1 id
  have q2 : ∀ x : (Wd (fun x => Ext (fun _ => False) w3 x)), x.w.cell? ⟨w.heap.size, 2, none⟩ = some (.bool r) := fun x => x.ok.cellSome m2 id
  have q3 : ∀ x : (Wd (fun x => Ext (fun _ => False) w3 x)), x.w.cell? ⟨w.heap.size, 3, none⟩ = some (.int .i64 p) := fun x => x.ok.cellSome m3 id
  have q4 : ∀ x : (Wd (fun x => Ext (fun _ => False) w3 x)), x.w.cell? ⟨w.heap.size, 4, none⟩ = some (.pointer (some ⟨fb, 0, none⟩)) := fun x => x.ok.cellSome m4 id
  clear m0 m1 m2 m3 m4
  refine wp_region_steps (S := fun x => Ext (fun _ => False) w3 x) [([0, 1, 3], [2]), ([], [4]), ([], [5])] _ (by kernel_rfl) (by kernel_rfl) rfl (by kernel_rfl) (fun _ d _ _ _ h => by cases d <;> exact h) (Ext.refl _ _).drew ?_
  simp only [segOps, List.filterMap_cons, List.filterMap_nil, List.getElem?_cons_zero, List.getElem?_cons_succ]
  refine wpSegs_cons ?_
  change wpQuiet _ _ _ _ (_ :: _ :: _ ::  []) _
  repeat (go_big_quiet_step (fail))
  refine wpQuiet_nil ?_
  refine wpLoud_step rfl (fun K hK => ?_)
  go_simp
  refine (intoStr_mk _ _ _ ⟨_, rfl⟩ ⟨_, rfl⟩).mono ?_
  rintro e v0 ⟨br0, bt0, rfl, hx, ⟨tr0, hr⟩, ⟨tt0, ht⟩, hg, hh⟩
  have hx : Ext (fun _ => False) w3 v0 := ⟨hx.os, hx.tape, hx.output, hx.size, hx.block⟩
  have hg0 : w3.heap.size ≤ br0 := hg
  have hh0 : w3.heap.size ≤ bt0 := hh
  have y0 := hx.size
  have HV0 : Hid (Ext (fun _ => False) w3 v0) := Lib.hid (hx)
  have HR0 := Lib.hid hr
  have HT0 := Lib.hid ht
  refine hK _ _ HV0.out ?_
  clear hK hx hr ht hg hh
  refine wpLoud_nil ?_
  refine wpSegs_cons ?_
  refine wpQuiet_nil ?_
  refine wpLoud_step rfl (fun K hK => ?_)
  go_simp
  refine (intoTm_mk _ _ _ ⟨_, rfl⟩ ⟨_, rfl⟩).mono ?_
  rintro e v1 ⟨br1, bt1, rfl, hx, ⟨tr1, hr⟩, ⟨tt1, ht⟩, hg, hh⟩
  have hx : Ext (fun _ => False) v0 v1 := ⟨hx.os, hx.tape, hx.output, hx.size, hx.block⟩
  have hg1 : v0.heap.size ≤ br1 := hg
  have hh1 : v0.heap.size ≤ bt1 := hh
  have y1 := hx.size
  have HV1 : Hid (Ext (fun _ => False) w3 v1) := Lib.hid (HV0.out.trans' hx)
  have HR0 := Lib.hid (HR0.out.ext hx id)
  have HT0 := Lib.hid (HT0.out.ext hx id)
  have HR1 := Lib.hid hr
  have HT1 := Lib.hid ht
  refine hK _ _ HV1.out ?_
  clear hK hx hr ht hg hh
  refine wpLoud_nil ?_
  refine wpSegs_cons ?_
  refine wpQuiet_nil ?_
  refine wpLoud_step rfl (fun K hK => ?_)
  go_simp
  refine hK _ _ (HV1.out.alloc _) ?_
  clear hK
  refine wpLoud_nil ?_
  refine wpSegs_nil ?_
  clear q0 q1 q2 q3 q4 ne
  have hx47 := HV1.out.alloc (.cells #[.func (.func 92) #[] #[.pointer (some ⟨br0, 0, none⟩), .pointer (some ⟨bt0, 0, none⟩)], .func (.func 96) #[] #[.pointer (some ⟨br1, 0, none⟩), .pointer (some ⟨bt1, 0, none⟩)]] 103)
  have hRB := Blk.new v1 #[.func (.func 92) #[] #[.pointer (some ⟨br0, 0, none⟩), .pointer (some ⟨bt0, 0, none⟩)], .func (.func 96) #[] #[.pointer (some ⟨br1, 0, none⟩), .pointer (some ⟨bt1, 0, none⟩)]] 103
  have hz7 : (v1.alloc (.cells #[.func (.func 92) #[] #[.pointer (some ⟨br0, 0, none⟩), .pointer (some ⟨bt0, 0, none⟩)], .func (.func 96) #[] #[.pointer (some ⟨br1, 0, none⟩), .pointer (some ⟨bt1, 0, none⟩)]] 103)).heap.size = v1.heap.size + 1 := by simp
  have hr0 := HR0.out.alloc (.cells #[.func (.func 92) #[] #[.pointer (some ⟨br0, 0, none⟩), .pointer (some ⟨bt0, 0, none⟩)], .func (.func 96) #[] #[.pointer (some ⟨br1, 0, none⟩), .pointer (some ⟨bt1, 0, none⟩)]] 103)
  have ht0 := HT0.out.alloc (.cells #[.func (.func 92) #[] #[.pointer (some ⟨br0, 0, none⟩), .pointer (some ⟨bt0, 0, none⟩)], .func (.func 96) #[] #[.pointer (some ⟨br1, 0, none⟩), .pointer (some ⟨bt1, 0, none⟩)]] 103)
  have hr1 := HR1.out.alloc (.cells #[.func (.func 92) #[] #[.pointer (some ⟨br0, 0, none⟩), .pointer (some ⟨bt0, 0, none⟩)], .func (.func 96) #[] #[.pointer (some ⟨br1, 0, none⟩), .pointer (some ⟨bt1, 0, none⟩)]] 103)
  have ht1 := HT1.out.alloc (.cells #[.func (.func 92) #[] #[.pointer (some ⟨br0, 0, none⟩), .pointer (some ⟨bt0, 0, none⟩)], .func (.func 96) #[] #[.pointer (some ⟨br1, 0, none⟩), .pointer (some ⟨bt1, 0, none⟩)]] 103)
  generalize v1.alloc (.cells #[.func (.func 92) #[] #[.pointer (some ⟨br0, 0, none⟩), .pointer (some ⟨bt0, 0, none⟩)], .func (.func 96) #[] #[.pointer (some ⟨br1, 0, none⟩), .pointer (some ⟨bt1, 0, none⟩)]] 103) = w7 at *
  have hX7 := HX4.out.trans' hx47
  have hF7 := Fst.ext HF4.out hx47 id
  have hb70 := HB0.out.ext hx47 id
  have lb0 := HB0.out.lt
  have a0 := hr0.lt
  have b0 := ht0.lt
  have a1 := hr1.lt
  have b1 := ht1.lt
  have PARTS := parts_any (B := B) [(w.heap.size + 1)] (fun _ => 117) (fun _ => #[.bool false, .string ⟨#[]⟩, .int .u8 0, .string ⟨#[]⟩, .bool false, .slice none 0 0, .slice none 0 0, .slice none 0 0, .slice none 0 0]) [slotStr br0 bt0 (w.heap.size + 1) 1 encStr (fun wd r p _ => nameS wd r p), slotTm br1 bt1 (w.heap.size + 1) 2 encTm (fun wd r p k => termS k wd r p)] wd (.slice a k.len cap) r p fb k v1.heap.size 103 w7 (HK.out.ext hX7 (fun _ _ h => h)) hF7 hRB (by simp) hfb
    (fun b hb => by
      simp only [List.mem_cons, List.not_mem_nil, or_false] at hb
      subst hb; omega)
    (by omega)
    (fun b hb => by
      simp only [List.mem_cons, List.not_mem_nil, or_false] at hb
      subst hb; exact ⟨hb70, rfl, by simp [Value.oneCell']⟩)
    (fun s hs => by
      simp only [List.mem_cons, List.not_mem_nil, or_false] at hs
      rcases hs with rfl | rfl <;> simp [slotStr, slotTm])
    (fun s hs xs hx => by
      simp only [List.mem_cons, List.not_mem_nil, or_false] at hs
      rcases hs with rfl | rfl
      · exact shpStr_one hx
      · exact shpN_one (n := 5) hx)
    (fun s hs => by
      simp only [List.mem_cons, List.not_mem_nil, or_false] at hs
      rcases hs with rfl | rfl
      · exact intoStr_enters
      · exact intoTm_enters)
    (fun i h wd1 r1 p1 k1 hg => by
      have h : i < 2 := h
      match i, h with
      | 0, _ => exact doesStr br0 bt0 (w.heap.size + 1) 1 encStr (fun wd r p _ => nameS wd r p) wd1 r1 p1 k1 hr0 ht0 ⟨by omega, by simp; omega⟩ ⟨by omega, by simp; omega⟩ (by simp) (by omega) (by omega) (by omega) name_enters (fun kv1 w1 hB hF hsl hwd => nodeName_any wd1 kv1 r1 p1 fb k1 w1 hF hsl hwd)
      | 1, _ => exact doesTm br1 bt1 (w.heap.size + 1) 2 encTm (fun wd r p k => termS k wd r p) wd1 r1 p1 k1 hr1 ht1 ⟨by omega, by simp; omega⟩ ⟨by omega, by simp; omega⟩ (by simp) (by omega) (by omega) (by omega) term_enters (fun kv1 w1 hB hF hsl hwd => term_any (k1.size + 1) B fb wd1 kv1 r1 p1 k1 w1 (by omega) (by have := F.get_size hg; omega) hB hfb hF hsl hwd))
  have HPARTS := Lib.hid PARTS
  have HX7 := Lib.hid hX7
  have HZ7 : Hid ((w.heap.size + 1) < w7.heap.size) := Lib.hid (by omega)
  have y7 : w.heap.size ≤ w7.heap.size := hX7.size
  clear PARTS hX7 hF7 hb70 hx47 hRB hr0 ht0 hr1 ht1
  unfold nodeV at HPARTS
  go_wp2_with fail
  refine HPARTS.out.mono ?_
  rintro e w8 ⟨rfl, hx8, S', hT8, hres⟩
  have HX8 : Hid (Ext (· = fb) w w8) := Lib.hid ((HX7.out.mono (M' := (· = fb)) (fun _ _ h => h.elim)).trans hx8 (fun b hb h => h.elim id (fun h => by
    simp only [List.mem_cons, List.not_mem_nil, or_false] at h
    omega)))
  have HR8 := Lib.hid hres
  have hz8 := hx8.size
  have HT80 := Lib.hid (hT8 (w.heap.size + 1) (by simp))
  clear hx8 hres hT8
  have h80 := HT80.out
  simp only [if_true, if_false] at h80
  obtain ⟨hb8, hsz8, hone8⟩ := h80
  obtain ⟨x0, x1, x2, x3, x4, x5, x6, x7, x8, hS, o0, o1, o2, o3, o4, o5, o6, o7, o8⟩ := arrN9 hsz8 hone8
  rw [hS] at hb8
  clear hsz8 hone8
  have c0 := hb8.cell 0
  have f0 := hb8.frozen 0
  have c1 := hb8.cell 1
  have f1 := hb8.frozen 1
  have c2 := hb8.cell 2
  have f2 := hb8.frozen 2
  have c3 := hb8.cell 3
  have f3 := hb8.frozen 3
  have c4 := hb8.cell 4
  have f4 := hb8.frozen 4
  have c5 := hb8.cell 5
  have f5 := hb8.frozen 5
  have c6 := hb8.cell 6
  have f6 := hb8.frozen 6
  have c7 := hb8.cell 7
  have f7 := hb8.frozen 7
  have c8 := hb8.cell 8
  have f8 := hb8.frozen 8
  simp only [List.getElem?_toArray, List.getElem?_cons_zero, List.getElem?_cons_succ] at c0 c1 c2 c3 c4 c5 c6 c7 c8
  have st0 := store_ok (P := Tryz.prog) (hb8) 0 (x0) (by simp) o0
  have st1 := store_ok (P := Tryz.prog) ((hb8.set 0 (x0))) 1 (x1) (by simp) o1
  have st2 := store_ok (P := Tryz.prog) (((hb8.set 0 (x0)).set 1 (x1))) 2 (x2) (by simp) o2
  have st3 := store_ok (P := Tryz.prog) ((((hb8.set 0 (x0)).set 1 (x1)).set 2 (x2))) 3 (x3) (by simp) o3
  have st4 := store_ok (P := Tryz.prog) (((((hb8.set 0 (x0)).set 1 (x1)).set 2 (x2)).set 3 (x3))) 4 (x4) (by simp) o4
  have st5 := store_ok (P := Tryz.prog) ((((((hb8.set 0 (x0)).set 1 (x1)).set 2 (x2)).set 3 (x3)).set 4 (x4))) 5 (x5) (by simp) o5
  have st6 := store_ok (P := Tryz.prog) (((((((hb8.set 0 (x0)).set 1 (x1)).set 2 (x2)).set 3 (x3)).set 4 (x4)).set 5 (x5))) 6 (x6) (by simp) o6
  have st7 := store_ok (P := Tryz.prog) ((((((((hb8.set 0 (x0)).set 1 (x1)).set 2 (x2)).set 3 (x3)).set 4 (x4)).set 5 (x5)).set 6 (x6))) 7 (x7) (by simp) o7
  have st8 := store_ok (P := Tryz.prog) (((((((((hb8.set 0 (x0)).set 1 (x1)).set 2 (x2)).set 3 (x3)).set 4 (x4)).set 5 (x5)).set 6 (x6)).set 7 (x7))) 8 (x8) (by simp) o8
  have HS := Lib.hid hS
  have l9 : w.heap.size + 1 < w8.heap.size := by have := HZ7.out; omega
  have HBF := Lib.hid hb8
  clear hb8 hS hz8
  go_wp2_with fail
  refine bodyPost_ret (v := .agg #[x0, x1, x2, x3, x4, x5, x6, x7, x8]) (results_cell Tryz.results51 rfl (fun _ => by kernel_rfl) (fun _ => by kernel_rfl) (sets_new [x0, x1, x2, x3, x4, x5, x6, x7, x8] HBF.out rfl)) rfl ⟨?_, [x0, x1, x2, x3, x4, x5, x6, x7, x8], rfl, ⟨rfl, ones_cons o0 (ones_cons o1 (ones_cons o2 (ones_cons o3 (ones_cons o4 (ones_cons o5 (ones_cons o6 (ones_cons o7 (ones_cons o8 (ones_nil)))))))))⟩, ?_⟩
  · exact sets_ext (b := w.heap.size + 1) (fun h => by have : w.heap.size + 1 < w.heap.size := h; omega) [x0, x1, x2, x3, x4, x5, x6, x7, x8] 0 _ (HX8.out)
  · rw [HRES.out]
    have h := HR8.out
    have hz7 := HZ7.out
    rcases kindA_cases br0 bt0 br1 bt1 (w.heap.size + 1) r p k with ⟨q, h1, h2⟩ | ⟨u0, u1, h1, h2⟩
    · rw [h1] at h
      rw [h2]
      exact sets_blk (b := w.heap.size + 1) HNB.1 [x0, x1, x2, x3, x4, x5, x6, x7, x8] 0 _ (h)
    · rw [h1] at h
      rw [h2]
      obtain ⟨hf8, xss, hp, hsr⟩ := h
      have hS := HS.out
      rw [hp] at hS
      match xss, hsr, hp with
      | [y0, y1], ⟨s0, g0, s1, g1, _⟩, hp =>
        obtain ⟨v0, rfl⟩ := s0
        obtain ⟨z0, z1, z2, z3, z4, rfl, _⟩ := len5 s1
        simp [puts, put, slotStr, slotTm, putL] at hS
        obtain ⟨rfl, rfl, rfl, rfl, rfl, rfl, rfl, rfl, rfl⟩ := hS
        obtain ⟨_, e0, m0, _⟩ := g0
        simp only [List.cons.injEq, Value.string.injEq] at e0
        obtain ⟨rfl, _⟩ := e0
        have g1 := g1.mono (D' := fun b => w.heap.size + 2 ≤ b) (fun b hb _ => by have : w7.heap.size ≤ b := hb; omega)
        exact ⟨sets_blk (b := w.heap.size + 1) HNB.1 [.bool false, .string v0, z0, z1, z2, z3, z4, .slice none 0 0, .slice none 0 0] 0 _ hf8, (sets_rep (b := w.heap.size + 1) (D := fun b => w.heap.size + 2 ≤ b) (by omega) [.bool false, .string v0, z0, z1, z2, z3, z4, .slice none 0 0, .slice none 0 0] 0 _ (show Rep (fun b => w.heap.size + 2 ≤ b) w8 (encTy (.mk false v0 u1 [] [])) [.bool false, .string v0, z0, z1, z2, z3, z4, .slice none 0 0, .slice none 0 0] from
          ⟨_, rfl, _, rfl, m0, tm_tail (xs := [z0, z1, z2, z3, z4]) g1 ⟨_, [], _, rfl, rfl, held_nil _ _, _, [], _, rfl, rfl, held_nil _ _, rfl⟩⟩)).mono (fun b hb _ => by have : w.heap.size + 2 ≤ b := hb; omega)⟩

end Go.Proofs.YtmcinpeplkkpfaaGreatDoor
