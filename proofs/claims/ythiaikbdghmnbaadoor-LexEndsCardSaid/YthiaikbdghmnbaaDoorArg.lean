/- An argument of trees that can be read lies in memory as a row of trees, and is no greater than its reading. -/
import Derived.Test.YthiaikbdghmnbaaDoorRead
import Derived.Test.YthiaikbdghmnbaaDoorRows
import Derived.ChangeArms
import Derived.DataReads
namespace Go.Proofs.YthiaikbdghmnbaaDoor
open Go.RowKit

/-- How much there is in a row of trees. -/
def F.wt : F → Nat
  | .nil => 0
  | .cons wd _ _ k t => wd.size + 1 + k.wt + t.wt

section
variable {H : Type} {enc : TypeId × Value → H} {w : World}

set_option maxRecDepth 100000 in
theorem read_elem (n : Nat) (cs : List Value) (x : DataW H × List MemPlace)
    (ih : ∀ (m : Nat), m < n → ∀ (v : Value) (x : DataW H × List MemPlace), DataW.trod enc Tryd.prog w 0 (fun _ => true) true m 27 [v] = some x → ∃ f, Sl (· < w.heap.size) w v f ∧ f.wt + 1 ≤ Rows.uptoBulk x.1)
    (h : DataW.trod enc Tryd.prog w 0 (fun _ => true) true n 35 cs = some x) :
    ∃ wd kv r p k, cs = [.string wd, kv, .bool r, .int .i64 p] ∧ wd.size ≤ maxLen ∧ Sl (· < w.heap.size) w kv k ∧ wd.size + 1 + k.wt ≤ Rows.uptoBulk x.1 := by
  obtain ⟨xs, m, rfl, rfl, hl, hxs, hf⟩ := DataW.trod_struct Tryd.underlying35 h
  have hc : Tryd.prog.cellsOf 35 = 4 := by kernel_rfl
  have k0 : Tryd.prog.cellsOf 9 = 1 := by kernel_rfl
  have k1 : Tryd.prog.cellsOf 27 = 1 := by kernel_rfl
  have k2 : Tryd.prog.cellsOf 4 = 1 := by kernel_rfl
  have k3 : Tryd.prog.cellsOf 3 = 1 := by kernel_rfl
  rw [hc] at hl
  match cs, hl with
  | [c0, c1, c2, c3], _ =>
    match xs, hxs with
    | [y0, y1, y2, y3], _ =>
      have h0 := hf 0 { name := "Word", type := 9, offset := 0, embedded := false, tag := "", pkgPath := "", byteOffset := 0 } rfl
      have h1 := hf 1 { name := "Kids", type := 27, offset := 1, embedded := false, tag := "", pkgPath := "", byteOffset := 16 } rfl
      have h2 := hf 2 { name := "Row", type := 4, offset := 2, embedded := false, tag := "", pkgPath := "", byteOffset := 40 } rfl
      have h3 := hf 3 { name := "At", type := 3, offset := 3, embedded := false, tag := "", pkgPath := "", byteOffset := 48 } rfl
      simp only [k0, k1, k2, k3, List.drop_zero, List.drop_succ_cons, List.take_succ_cons, List.take_zero, List.getElem?_cons_zero, List.getElem?_cons_succ] at h0 h1 h2 h3
      obtain ⟨s, e0, e0', hs⟩ := DataW.trod_string Tryd.underlying9 h0
      obtain ⟨k, hk, hkw⟩ := ih m (by omega) c1 y1 h1
      obtain ⟨b, e2, e2'⟩ := DataW.trod_bool Tryd.underlying4 h2
      obtain ⟨p, e3, e3', _⟩ := DataW.trod_int Tryd.underlying3 h3
      simp only [List.cons.injEq, and_true] at e0 e2 e3
      subst e0 e2 e3 e0' e2' e3'
      refine ⟨s, c1, b, p, k, rfl, hs, hk, ?_⟩
      simp only [List.map_cons, List.map_nil, Rows.uptoBulk, Rows.uptoBulkAll]
      have : s.data.toList.length = s.size := by rw [Lib.size_eq]
      omega

set_option maxRecDepth 100000 in
theorem read_row : ∀ (n : Nat) (v : Value) (x : DataW H × List MemPlace), DataW.trod enc Tryd.prog w 0 (fun _ => true) true n 27 [v] = some x → ∃ f, Sl (· < w.heap.size) w v f ∧ f.wt + 1 ≤ Rows.uptoBulk x.1 := by
  intro n
  induction n using Nat.strongRecOn with
  | ind n ih =>
    intro v x h
    rcases DataW.trod_slice Tryd.underlying27 h with ⟨hv, rfl⟩ | ⟨a, len, cap, elems, rest, m, rfl, hv, rfl, _, hlc, hcm, hlen, hel, _, _⟩
    · simp only [List.cons.injEq, and_true] at hv
      subst hv
      exact ⟨.nil, Sl.nil _ _, by simp [F.wt, Rows.uptoBulk]⟩
    · simp only [List.cons.injEq, and_true] at hv
      subst hv
      have hc : Tryd.prog.cellsOf 35 = 4 := by kernel_rfl
      rw [hc] at hel
      have key : ∀ (d j : Nat), j + d = len → ∃ f xs, f.len = d ∧ Elems (· < w.heap.size) w f xs ∧ (∀ i y, xs[i]? = some y → w.cell? ⟨a.block, a.off + (j * 4 + i), none⟩ = some y) ∧ f.wt ≤ Rows.uptoBulkAll ((elems.drop j).map (·.1)) ∧
          (0 < d → j = 0 → a.spot = none ∧ a.block < w.heap.size) := by
        intro d
        induction d with
        | zero => intro j _; exact ⟨.nil, [], rfl, rfl, fun i y hy => by simp at hy, Nat.zero_le _, fun h => by omega⟩
        | succ d ihd =>
          intro j hj
          obtain ⟨f, xs, hfl, hfe, hfc, hfw, _⟩ := ihd (j + 1) (by omega)
          have hj2 := hel j (by omega)
          have hjl : j < elems.length := by omega
          rw [List.getElem?_eq_getElem hjl] at hj2
          obtain ⟨cs, hcs, htr⟩ := Option.bind_eq_some_iff.1 hj2
          obtain ⟨_, hcl, hcc⟩ := World.cells?_some hcs
          obtain ⟨wd, kv, r, p, k, rfl, hwd, hk, hkw⟩ := read_elem m cs elems[j] (fun m' hm' => ih m' (by omega)) htr
          have hspot : ∀ i y, [Value.string wd, kv, .bool r, .int .i64 p][i]? = some y → w.cell? ⟨a.block, a.off + (j * 4 + i), none⟩ = some y ∧ (j * 4 + i = 0 → a.spot = none) := by
            intro i y hy
            have hi : i < 4 := by
              have := (List.getElem?_eq_some_iff.1 hy).1
              simpa using this
            have hcell := hcc i hi
            rw [hy] at hcell
            have hadd : (a.add (j * 4)).add i = if j * 4 + i = 0 then a else ⟨a.block, a.off + (j * 4 + i), none⟩ := by
              unfold Addr.add
              by_cases h1 : j * 4 = 0 <;> by_cases h2 : i = 0 <;> simp [h1, h2] <;> omega
            rw [hadd] at hcell
            by_cases h0 : j * 4 + i = 0
            · rw [if_pos h0] at hcell
              have hs0 : a.spot = none := by
                unfold World.cell? at hcell
                split at hcell
                · split at hcell
                  · cases hcell
                  · rename_i hns; simpa using hns
                · cases hcell
              refine ⟨?_, fun _ => hs0⟩
              rw [h0]
              obtain ⟨ab, ao, asp⟩ := a
              simp only at hs0
              subst hs0
              exact hcell
            · rw [if_neg h0] at hcell
              exact ⟨hcell, fun h => absurd h h0⟩
          obtain ⟨ys, hye, hyh⟩ := hk
          refine ⟨.cons wd r p k f, .string wd :: kv :: .bool r :: .int .i64 p :: xs, by simp [F.len, hfl], ⟨kv, ys, xs, rfl, hwd, hye, hyh, hfe⟩, ?_, ?_, ?_⟩
          · intro i y hy
            by_cases hi : i < 4
            · refine (hspot i y ?_).1
              match i, hi with
              | 0, _ => exact hy
              | 1, _ => exact hy
              | 2, _ => exact hy
              | 3, _ => exact hy
            · obtain ⟨i', rfl⟩ : ∃ i', i = i' + 4 := ⟨i - 4, by omega⟩
              have := hfc i' y (by simpa using hy)
              rw [show a.off + ((j + 1) * 4 + i') = a.off + (j * 4 + (i' + 4)) by omega] at this
              exact this
          · rw [List.drop_eq_getElem_cons hjl]
            simp only [List.map_cons, Rows.uptoBulkAll, F.wt]
            omega
          · intro _ hj0
            have hh := hspot 0 _ rfl
            subst hj0
            refine ⟨hh.2 (by simp), ?_⟩
            exact World.block_lt_of_cell? w ⟨a.block, a.off + (0 * 4 + 0), none⟩ hh.1
      obtain ⟨f, xs, hfl, hfe, hfc, hfw, hfs⟩ := key len 0 (by omega)
      subst hfl
      refine ⟨f, ⟨xs, hfe, some a, cap, rfl, hlc, hcm, (fun h => by cases h), ?_⟩, ?_⟩
      · by_cases h0 : 0 < f.len
        · obtain ⟨hs, hb⟩ := hfs h0 rfl
          obtain ⟨ab, ao, asp⟩ := a
          simp only at hs
          subst hs
          refine .inr ⟨ab, ao, rfl, hb, fun i y hy => ?_⟩
          have := hfc i y hy
          simpa using this
        · left
          have := hfe.length
          exact List.eq_nil_of_length_eq_zero (by omega)
      · simp only [List.drop_zero] at hfw
        simp only [Rows.uptoBulk]
        omega
end

end Go.Proofs.YthiaikbdghmnbaaDoor
