/- Walk: the chapter's examples hold (awake). -/
import Derived.Test.YthiaikbdghmnbaaDoorLexW4
import Derived.Test.YthiaikbdghmnbaaDoorRead
namespace Go.Proofs.YthiaikbdghmnbaaDoor
open Go.RowKit

theorem ex1 : parseS ⟨#[40, 97, 100, 100, 32, 120, 32, 49, 41]⟩ = (.cons ⟨#[]⟩ true 0 (.cons ⟨#[97, 100, 100]⟩ false 1 .nil (.cons ⟨#[120]⟩ false 5 .nil (.cons ⟨#[49]⟩ false 7 .nil .nil))) .nil, 0, 0) := by kernel_rfl
theorem ex2 : parseS ⟨#[40, 97]⟩ = (.nil, 2, 20) := by kernel_rfl
theorem ex3 : parseS ⟨#[97, 41]⟩ = (.nil, 1, 20) := by kernel_rfl
theorem ex4 : parseS ⟨#[65]⟩ = (.nil, 0, 20) := by kernel_rfl

set_option maxRecDepth 100000 in
set_option maxHeartbeats 2000000 in
theorem awake_any (w : World) : Calls Tryd.prog 11 #[] w fun e w' => e = .returned (.bool true) ∧ Ext (fun _ => False) w w' := by
  have p1 := fun w => parse_any ⟨#[40, 97, 100, 100, 32, 120, 32, 49, 41]⟩ w (by decide)
  have p2 := fun w => parse_any ⟨#[40, 97]⟩ w (by decide)
  have p3 := fun w => parse_any ⟨#[97, 41]⟩ w (by decide)
  have p4 := fun w => parse_any ⟨#[65]⟩ w (by decide)
  rw [ex1] at p1
  rw [ex2] at p2
  rw [ex3] at p3
  rw [ex4] at p4
  have P1 := Lib.hid p1
  have P2 := Lib.hid p2
  have P3 := Lib.hid p3
  have P4 := Lib.hid p4
  clear p1 p2 p3 p4
  go_enter Tryd.func11, Tryd.ntmps11
  go_wp2_with fail
  refine (P1.out _).mono ?_
  rintro e w1 ⟨hx1, v1, rfl, hs1⟩
  obtain ⟨b, off, cap, rfl, hcp, hcm, hD, c0, ⟨kv, c1, hk⟩, c2, c3, _, _⟩ := hs1.cons
  obtain ⟨b', off', cap', rfl, hcp', hcm', hD', _, _, _, _, _, d0, ⟨_, d1, _⟩, d2, d3, _, e0, ⟨_, e1, _⟩, e2, e3, _, _⟩ := hk.cons
  clear hs1 hk
  go_wp2_with fail
  refine (P2.out _).mono ?_
  rintro e w2 ⟨hx2, v2, rfl, _⟩
  go_wp2_with fail
  refine (P3.out _).mono ?_
  rintro e w3 ⟨hx3, v3, rfl, _⟩
  go_wp2_with fail
  refine (P4.out _).mono ?_
  rintro e w4 ⟨hx4, v4, rfl, _⟩
  have hx14 := (hx2.trans' hx3).trans' hx4
  have g2 := hx14.cellSome c2 id
  have g1 := hx14.cellSome c1 id
  have ge0 := hx14.cellSome e0 id
  have gd3 := hx14.cellSome d3 id
  have hx := hx1.trans' hx14
  clear c0 c1 c2 c3 d0 d1 d2 d3 e0 e1 e2 e3 hx1 hx2 hx3 hx4 hx14 P1 P2 P3 P4 hD hD'
  go_wp2_with fail
  go_ret
  exact ⟨rfl, hx⟩

end Go.Proofs.YthiaikbdghmnbaaDoor
