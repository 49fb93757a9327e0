/- Walk: the reference's Parse. -/
import Derived.Test.YthiaikbdghmnbaaDoorRefPush
import Derived.Test.YthiaikbdghmnbaaDoorRefSign
import Derived.Test.YthiaikbdghmnbaaDoorRefLaw
namespace Go.Proofs.YthiaikbdghmnbaaDoor
open Go.RowKit

/-- What the reference leaves: as Parse. -/
def RefPost (w : World) (r : F × Nat × Int) (e : Ending) (w' : World) : Prop :=
  Ext (fun _ => False) w w' ∧ ∃ v, e = .returned (.tuple #[v, .int .i64 r.2.1, .int .i64 r.2.2]) ∧ Sl (fun b => w.heap.size ≤ b) w' v r.1

theorem ref_long (s : ByteArray) (w : World) (hs : 262144 < s.size) (hm : s.size ≤ maxLen) :
    Calls Tryd.prog 12 #[.string s] w (RefPost w (.nil, 0, 3)) := by
  unfold maxLen at hm
  have hb : (262144 : Int) < (s.size : Int) := by omega
  go_enter Tryd.func12, Tryd.ntmps12
  go_wp2_with fail
  refine bodyPost_ret (v := .tuple #[.slice none 0 0, .int .i64 0, .int .i64 3]) (by simp [results, Tryd.results12, go_sem, *]) rfl ⟨Ext.refl _ _, _, rfl, Sl.nil _ _⟩

theorem u8_eq {c k : UInt8} (h : c = k) : ((c.toNat : Int) == (k.toNat : Int)) = true := by rw [h]; simp
theorem u8_ne {c k : UInt8} (h : c ≠ k) : ((c.toNat : Int) == (k.toNat : Int)) = false := by
  rw [beq_eq_false_iff_ne]
  intro e
  exact h (UInt8.toNat_inj.1 (by omega))

set_option maxRecDepth 100000 in
set_option maxHeartbeats 4000000 in
theorem ref_short (s : ByteArray) (w : World) (hs : s.size ≤ 262144) :
    Calls Tryd.prog 12 #[.string s] w (RefPost w (refP s 0 [(.nil, 0)])) := by
  have hb0 : ¬ (262144 : Int) < (s.size : Int) := by omega
  generalize hsp : refP s 0 [(.nil, 0)] = spec
  have HSP := Lib.hid hsp
  clear hsp
  go_enter Tryd.func12, Tryd.ntmps12
  go_wp2_with fail
  have hst := Stk.start w
  have hx0 := (((Ext.refl (fun _ => False) w).alloc (.cells #[.slice none 0 0] 37)).alloc (.cells #[.int .i64 0] 3)).alloc (.cells #[.slice (some ⟨w.heap.size, 0, none⟩) 1 1, .slice (some ⟨w.heap.size + 1, 0, none⟩) 1 1] 79)
  obtain ⟨br, hbr⟩ : ∃ br, br = w.heap.size + 1 + 1 := ⟨_, rfl⟩
  rw [← hbr] at hst ⊢
  have hbb : w.heap.size ≤ br := by omega
  clear hbr
  go_loopg [6] s.size (fun q iv wr => ∃ (i : Nat) (f : F) (b : Nat) (st : List (F × Nat)) (lv bv : Value) (vs : List Value), iv = .int .i64 i ∧ i ≤ s.size ∧ q = s.size - i ∧ Hid (Stk wr w.heap.size br ((f, b) :: st) lv bv vs) ∧
      Ext (fun _ => False) w wr ∧ st.length ≤ 400 ∧ Hid (∀ x ∈ (f, b) :: st, x.1.len ≤ i) ∧ Hid (refP s i ((f, b) :: st) = spec))
  case atStart => exact ⟨0, .nil, 0, [], _, _, _, rfl, by omega, rfl, Lib.hid hst, hx0, by simp, Lib.hid (by simp [F.len]), HSP⟩
  case round =>
    obtain ⟨i, f, b, st, lv, bv, vs, rfl, hi, rfl, HST, hext, hdep, HLEN, HP⟩ := hrel
    obtain ⟨v, vs', rfl, ⟨xs, hown, hel⟩, hrest⟩ := HST.out.rows.top
    have hvl := hrest.length
    obtain ⟨g, cap, rfl⟩ := owns_form HST.out.lown (by simp)
    have c0 := HST.out.blk.cell 0
    simp only [List.getElem?_toArray, List.getElem?_cons_zero, List.length_cons] at c0
    have hlo := HST.out.lown
    simp only [List.length_cons] at hlo
    have HX := Lib.hid hext
    have hsz := hext.size
    clear hst hx0 hext
    by_cases hlt : i < s.size
    · have i0 : (0 : Int) ≤ (i : Int) := by omega
      have i1 : (i : Int) < (s.size : Int) := by omega
      have hpe := refP_eq s i ((f, b) :: st) hi
      rw [dif_pos hlt] at hpe
      by_cases hb : isBlank s[i] = true
      · rw [if_pos hb] at hpe
        have HP2 : Hid (refP s (i + 1) ((f, b) :: st) = spec) := Lib.hid (hpe.symm.trans HP.out)
        have hcase : s[i] = 32 ∨ s[i] = 10 := by simpa [isBlank] using hb
        clear hpe hb hown hel hrest hlo
        rcases hcase with hc | hc
        · have j1 : ((s[i].toNat : Int) == 32) = true := u8_eq hc
          have j1p : (s[i].toNat : Int) = 32 := by rw [hc]; rfl
          go_wp2_with fail
          go_roundg (s.size - (i + 1))
          case measure => omega
          case rel => exact ⟨i + 1, f, b, st, _, bv, _, by simp, by omega, rfl, HST, HX.out, hdep, Lib.hid (fun x hx => by have := HLEN.out x hx; omega), HP2⟩
        · have j1 : ((s[i].toNat : Int) == 32) = false := u8_ne (k := 32) (by rw [hc]; decide)
          have j1p : ¬ (s[i].toNat : Int) = 32 := by rw [hc]; decide
          have j2 : ((s[i].toNat : Int) == 10) = true := u8_eq hc
          have j2p : (s[i].toNat : Int) = 10 := by rw [hc]; rfl
          go_wp2_with fail
          go_roundg (s.size - (i + 1))
          case measure => omega
          case rel => exact ⟨i + 1, f, b, st, _, bv, _, by simp, by omega, rfl, HST, HX.out, hdep, Lib.hid (fun x hx => by have := HLEN.out x hx; omega), HP2⟩
      · rw [if_neg hb] at hpe
        have hn : s[i] ≠ 32 ∧ s[i] ≠ 10 := by simpa [isBlank] using hb
        have j1 : ((s[i].toNat : Int) == 32) = false := u8_ne (k := 32) hn.1
        have j2 : ((s[i].toNat : Int) == 10) = false := u8_ne (k := 10) hn.2
        have j1p : ¬ (s[i].toNat : Int) = 32 := by simpa using j1
        have j2p : ¬ (s[i].toNat : Int) = 10 := by simpa using j2
        clear hb hn
        by_cases h40 : s[i] = 40
        · have j3 : ((s[i].toNat : Int) == 40) = true := u8_eq h40
          have j3p : (s[i].toNat : Int) = 40 := by rw [h40]; rfl
          rw [if_pos h40] at hpe
          by_cases hd : 400 < ((f, b) :: st).length
          · rw [if_pos hd] at hpe
            have er : spec = (.nil, i, 3) := HP.out.symm.trans hpe
            have k1 : (400 : Int) < (vs'.length : Int) + 1 := by simp at hd; omega
            clear hpe hown hel hrest hlo
            go_wp2_with fail
            refine bodyPost_ret (v := .tuple #[.slice none 0 0, .int .i64 i, .int .i64 3]) (by simp [results, Tryd.results12, go_sem, *]) rfl ⟨HX.out, _, by rw [er], by rw [er]; exact Sl.nil _ _⟩
          · rw [if_neg hd] at hpe
            have HP2 : Hid (refP s (i + 1) ((.nil, i) :: (f, b) :: st) = spec) := Lib.hid (hpe.symm.trans HP.out)
            have k1 : ¬ (400 : Int) < (vs'.length : Int) + 1 := by simp at hd; omega
            clear hpe
            have hgb : br ≠ g := fun e => HST.out.abr (.slice (some ⟨g, 0, none⟩) ((.slice none 0 0 :: vs').length) cap) (by simp) (by simp [Value.ownBlock, e])
            have hbg : bv.ownBlock ≠ some g := fun e => by
              have := (List.pairwise_cons.1 HST.out.apart).1 bv (by simp) g rfl
              exact this e
            have hbb2 : bv.ownBlock ≠ some br := HST.out.abr bv (by simp)
            have hbo := HST.out.bown
            have hblk := HST.out.blk
            obtain ⟨gv, capv, rfl⟩ := owns_form hbo (by simp)
            have hlb := hlo.lt g rfl
            have hbl := hbo.lt gv rfl
            simp only [List.length_cons, hvl] at hblk hbo
            have HVL := Lib.hid hvl
            have hdep' : vs'.length ≤ 400 := by omega
            clear hvl
            clear hown hel hrest
            have hbase1 : w.heap.size ≤ wr.heap.size := hsz
            have hmax1 : vs'.length + 1 + 1 ≤ maxLen := by unfold maxLen; omega
            have hby1 : (vs'.length + 1 + 1) * 24 ≤ 140737488355328 := by omega
            have hgbv : gv ≠ g := fun e => hbg (by simp [Value.ownBlock, e])
            have hgvb : br ≠ gv := fun e => hbb2 (by simp [Value.ownBlock, e])
            have hmax2 : vs'.length + 1 + 1 ≤ maxLen := by unfold maxLen; omega
            have hby2 : (vs'.length + 1 + 1) * 8 ≤ 140737488355328 := by omega
            have HMM : Hid (∀ c, c < w.heap.size → (c = br ∨ (Value.slice (some ⟨g, 0, none⟩) (vs'.length + 1) cap).ownBlock = some c ∨ (Value.slice (some ⟨gv, 0, none⟩) (vs'.length + 1) capv).ownBlock = some c) → False) := Lib.hid (fun c hc e => by
              rcases e with e | e | e
              · omega
              · have : g = c := by simpa [Value.ownBlock] using e
                omega
              · have : gv = c := by simpa [Value.ownBlock] using e
                omega)
            have HA1 : Hid (∀ lv' w6, w6.ownsRow w.heap.size 37 1 lv' (vs'.length + 1 + 1) ((v :: vs').reverse ++ [.slice none 0 0]) → Grew (.slice (some ⟨g, 0, none⟩) (vs'.length + 1) cap) lv' wr w6 →
                ∃ g6 cap6, lv' = .slice (some ⟨g6, 0, none⟩) (vs'.length + 1 + 1) cap6 ∧ Ext (fun c => c = g) wr w6 ∧ Blk w6 br #[.slice (some ⟨g, 0, none⟩) (vs'.length + 1) cap, .slice (some ⟨gv, 0, none⟩) (vs'.length + 1) capv] 79 ∧
                (w6.setCell ⟨br, 0, none⟩ (.slice (some ⟨g6, 0, none⟩) (vs'.length + 1 + 1) cap6)).ownsRow w.heap.size 3 1 (.slice (some ⟨gv, 0, none⟩) (vs'.length + 1) capv) (vs'.length + 1) (((f, b) :: st).map fun x => Value.int .i64 x.2).reverse ∧
                w.heap.size ≤ (w6.setCell ⟨br, 0, none⟩ (.slice (some ⟨g6, 0, none⟩) (vs'.length + 1 + 1) cap6)).heap.size ∧ w6.heap.size = (w6.setCell ⟨br, 0, none⟩ (.slice (some ⟨g6, 0, none⟩) (vs'.length + 1 + 1) cap6)).heap.size) := Lib.hid (fun lv' w6 hl6 hg6 => by
              obtain ⟨g6, cap6, rfl⟩ := owns_form hl6 (by omega)
              have hx6 : Ext (fun c => c = g) wr w6 := hg6.ext (Ext.refl _ _) (fun c hc _ => by cases hc; rfl)
              refine ⟨g6, cap6, rfl, hx6, hblk.ext hx6 hgb, ownsRow_setCell_other (owns_ext hbo hx6 (fun c hc _ e => hbg (by rw [← e]; exact hc))) (by exact hbb2) _, ?_⟩
              have := hx6.size
              refine ⟨?_, by simp [World.setCell]⟩
              simp [World.setCell]; omega)
            have HA2 : Hid (∀ g6 cap6 w6, Blk w6 br #[.slice (some ⟨g, 0, none⟩) (vs'.length + 1) cap, .slice (some ⟨gv, 0, none⟩) (vs'.length + 1) capv] 79 →
                ∀ bv' w8, w8.ownsRow w.heap.size 3 1 bv' (vs'.length + 1 + 1) ((((f, b) :: st).map fun x => Value.int .i64 x.2).reverse ++ [.int .i64 i]) → Grew (.slice (some ⟨gv, 0, none⟩) (vs'.length + 1) capv) bv' (w6.setCell ⟨br, 0, none⟩ (.slice (some ⟨g6, 0, none⟩) (vs'.length + 1 + 1) cap6)) w8 →
                ∃ g8 cap8, bv' = .slice (some ⟨g8, 0, none⟩) (vs'.length + 1 + 1) cap8 ∧ Ext (fun c => c = gv) (w6.setCell ⟨br, 0, none⟩ (.slice (some ⟨g6, 0, none⟩) (vs'.length + 1 + 1) cap6)) w8 ∧
                Blk w8 br #[.slice (some ⟨g6, 0, none⟩) (vs'.length + 1 + 1) cap6, .slice (some ⟨gv, 0, none⟩) (vs'.length + 1) capv] 79) := Lib.hid (fun g6 cap6 w6 hb6 bv' w8 hb8 hg8 => by
              obtain ⟨g8, cap8, rfl⟩ := owns_form hb8 (by omega)
              have hx8 : Ext (fun c => c = gv) (w6.setCell ⟨br, 0, none⟩ (.slice (some ⟨g6, 0, none⟩) (vs'.length + 1 + 1) cap6)) w8 := hg8.ext (Ext.refl _ _) (fun c hc _ => by cases hc; rfl)
              exact ⟨g8, cap8, rfl, hx8, (hb6.set 0 (.slice (some ⟨g6, 0, none⟩) (vs'.length + 1 + 1) cap6)).ext hx8 hgvb⟩)
            go_wp2_with (first | (at_builtin; refine wpList_append_one rfl (.tmp 47) (.tmp 48) 76 rfl w.heap.size 37 1 24 Tryd.eltRRow _ _ _ rfl hlo [.slice none 0 0] rfl rfl rfl hmax1 hby1 hbase1 ?_; intro lv' w6 hl6 hg6; obtain ⟨g6, cap6, rfl, hx6, hb6, hbo6, hbase2, hsz6⟩ := HA1.out lv' w6 hl6 hg6; have d0 := hb6.cell 0; have d1 := hb6.cell 1; have z0 := hb6.frozen 0; have z1 := hb6.frozen 1; simp only [List.getElem?_toArray, List.getElem?_cons_succ, List.getElem?_cons_zero] at d0 d1; have HSZ6 := Lib.hid hsz6; clear hsz6) | (at_builtin; refine wpList_append_one rfl (.tmp 56) (.tmp 58) 77 rfl w.heap.size 3 1 8 Tryd.eltInt _ _ _ rfl hbo6 [.int .i64 i] (congrArg (fun n => Value.slice (some ⟨n, 0, none⟩) 1 1) HSZ6.out) rfl rfl hmax2 hby2 hbase2 ?_; intro bv' w8 hb8 hg8; obtain ⟨g8, cap8, rfl, hx8, hblk8⟩ := HA2.out g6 cap6 w6 hb6 bv' w8 hb8 hg8; have e0 := hblk8.cell 0; have e1 := hblk8.cell 1; have y0 := hblk8.frozen 0; have y1 := hblk8.frozen 1; simp only [List.getElem?_toArray, List.getElem?_cons_succ, List.getElem?_cons_zero] at e0 e1))
            have hg6b := hg6.own g6 rfl
            have hg8b := hg8.own g8 rfl
            have hl6b := (hl6.lt g6 rfl).2
            have hs6 := HSZ6.out
            have hs6' := hx6.size
            have hbrl := hblk.lt
            have n1 : g6 ≠ br := fun e => by
              rcases hg6b with h | h
              · cases h; exact hgb e.symm
              · omega
            have n2 : g6 ≠ gv := fun e => by
              rcases hg6b with h | h
              · cases h; exact hgbv e.symm
              · omega
            have n3 : g8 ≠ br := fun e => by
              rcases hg8b with h | h
              · cases h; exact hgvb e.symm
              · omega
            have n4 : g6 ≠ g8 := fun e => by
              rcases hg8b with h | h
              · cases h; exact n2 e
              · omega
            have hxa : Ext (fun c => c = br ∨ (Value.slice (some ⟨g, 0, none⟩) (vs'.length + 1) cap).ownBlock = some c ∨ (Value.slice (some ⟨gv, 0, none⟩) (vs'.length + 1) capv).ownBlock = some c) wr (w6.setCell ⟨br, 0, none⟩ (.slice (some ⟨g6, 0, none⟩) (vs'.length + 1 + 1) cap6)) := (hx6.mono (fun c _ e => .inr (.inl (by rw [e]; rfl)))).setCell (fun _ => .inl rfl) _
            have hxb := (hxa.trans hx8 (fun c _ e => .inr (.inr (by rw [e]; rfl)))).setCell (p := ⟨br, 1, none⟩) (fun _ => .inl rfl) (.slice (some ⟨g8, 0, none⟩) (vs'.length + 1 + 1) cap8)
            have hl9 := ownsRow_setCell_other (owns_ext (ownsRow_setCell_other hl6 (a := ⟨br, 0, none⟩) (by simpa [Value.ownBlock] using n1) (.slice (some ⟨g6, 0, none⟩) (vs'.length + 1 + 1) cap6)) hx8 (fun c hc _ e => by cases hc; exact n2 e)) (a := ⟨br, 1, none⟩) (by simpa [Value.ownBlock] using n1) (.slice (some ⟨g8, 0, none⟩) (vs'.length + 1 + 1) cap8)
            have hb9 := ownsRow_setCell_other hb8 (a := ⟨br, 1, none⟩) (by simpa [Value.ownBlock] using n3) (.slice (some ⟨g8, 0, none⟩) (vs'.length + 1 + 1) cap8)
            have hst0 := HST.out
            simp only [List.length_cons, HVL.out] at hst0
            have hpush := Stk.push (i := i) hst0 hxb (hblk8.set 1 (.slice (some ⟨g8, 0, none⟩) (vs'.length + 1 + 1) cap8)) hl9 (by simpa [HVL.out] using hb9) (fun c hc => hg6.own c hc) (fun c hc => (hg8.own c hc).imp id (fun h => by omega)) (fun c hc e => by cases hc; cases e; exact n4 rfl)
            have HPUSH := Lib.hid hpush
            have hx9 : Ext (fun _ => False) w (w8.setCell ⟨br, 1, none⟩ (.slice (some ⟨g8, 0, none⟩) (vs'.length + 1 + 1) cap8)) := HX.out.trans hxb HMM.out
            have hdp2 : st.length + 1 ≤ 400 := by have := HVL.out; omega
            clear hpush hl9 hb9 hxb hxa hst0 hblk8 hx8 hg8 hb8 hl6 hg6 hx6 hbo6 hb6 HA1 HA2 HST
            go_roundg (s.size - (i + 1))
            case measure => omega
            case rel => exact ⟨i + 1, .nil, i, (f, b) :: st, _, _, _, by simp, by omega, rfl, HPUSH, hx9, by simpa using hdp2, Lib.hid (fun x hx => by
              rcases List.mem_cons.1 hx with rfl | hx
              · simp [F.len]
              · have := HLEN.out x hx; omega), HP2⟩
        · have j3 : ((s[i].toNat : Int) == 40) = false := u8_ne (k := 40) h40
          have j3p : ¬ (s[i].toNat : Int) = 40 := by simpa using j3
          rw [if_neg h40] at hpe
          by_cases h41 : s[i] = 41
          · have j4 : ((s[i].toNat : Int) == 41) = true := u8_eq h41
            have j4p : (s[i].toNat : Int) = 41 := by rw [h41]; rfl
            rw [if_pos h41] at hpe
            cases st with
            | nil =>
              obtain rfl : vs' = [] := List.eq_nil_of_length_eq_zero hvl.symm
              have er : spec = (.nil, i, 20) := HP.out.symm.trans hpe
              clear hpe hown hel hrest hlo
              go_wp2_with fail
              refine bodyPost_ret (v := .tuple #[.slice none 0 0, .int .i64 i, .int .i64 20]) (by simp [results, Tryd.results12, go_sem, *]) rfl ⟨HX.out, _, by rw [er], by rw [er]; exact Sl.nil _ _⟩
            | cons x st =>
              obtain ⟨f1, b1⟩ := x
              have HP2 : Hid (refP s (i + 1) ((f1.app (.cons ByteArray.empty true b f .nil), b1) :: st) = spec) := Lib.hid (hpe.symm.trans HP.out)
              simp only [List.length_cons] at hvl hdep
              have k1 : (((vs'.length : Nat) : Int) + 1 == 1) = false := by rw [beq_eq_false_iff_ne]; omega
              have k1p : ¬ ((vs'.length : Nat) : Int) + 1 = 1 := by omega
              have hl1 := HLEN.out (f1, b1) (by simp)
              have hca := close_any w.heap.size br wr f f1 b b1 st _ _ _ HST.out hsz (by omega) (by simp at hl1; omega)
              have HCA := Lib.hid hca
              clear hpe hown hel hrest hlo hca
              go_wp2_with fail
              refine HCA.out.mono ?_
              rintro e w2 ⟨rfl, ⟨lv2, bv2, vs2, h2⟩, hx2⟩
              have hx02 : Ext (fun _ => False) w w2 := HX.out.trans hx2 (fun c hc e => by omega)
              have H2 := Lib.hid h2
              clear h2 hx2 HCA HST
              go_wp2_with fail
              go_roundg (s.size - (i + 1))
              case measure => omega
              case rel => exact ⟨i + 1, _, b1, st, _, _, _, by simp, by omega, rfl, H2, hx02, by omega, Lib.hid (fun x hx => by
                rcases List.mem_cons.1 hx with rfl | hx
                · rw [F.len_app]; simp [F.len] at hl1 ⊢; omega
                · have := HLEN.out x (by simp [hx]); omega), HP2⟩
          · have j4 : ((s[i].toNat : Int) == 41) = false := u8_ne (k := 41) h41
            have j4p : ¬ (s[i].toNat : Int) = 41 := by simpa using j4
            rw [if_neg h41] at hpe
            by_cases hsg : isSign s[i] = true
            · rw [if_pos hsg] at hpe
              have hpe2 : refP s (adv isSign s i) ((f.app (.cons (s.extract i (adv isSign s i)) false i .nil .nil), b) :: st) = spec := hpe.symm.trans HP.out
              have hgt := adv_gt hlt hsg
              have hle := adv_le isSign s i hi
              have hst1 := adv_step isSign hlt hsg
              generalize hadv : adv isSign s i = en at *
              have HP2 := Lib.hid hpe2
              have hsn := refSign_any s[i]
              rw [hsg] at hsn
              have HS := Lib.hid hsn
              have HADV := Lib.hid hst1
              clear hpe hpe2 hsn hst1 hown hel hrest hlo hadv
              go_wp2_with fail
              refine (HS.out _).mono ?_
              rintro e w2 ⟨rfl, rfl⟩
              go_wp2_with fail
              go_loopg [6] (s.size - i) (fun q jv wj => ∃ j : Nat, jv = .int .i64 j ∧ i ≤ j ∧ j < s.size ∧ q = s.size - j ∧ wj = wr ∧ Hid (adv isSign s (j + 1) = en))
              case atStart => exact ⟨i, rfl, Nat.le_refl _, hlt, rfl, rfl, Lib.hid HADV.out.symm⟩
              case round =>
                obtain ⟨j, rfl, hj1, hj2, rfl, rfl, HJ⟩ := hrel
                have p0 : (0 : Int) ≤ (j : Int) + 1 := by omega
                by_cases hj3 : j + 1 < s.size
                · have p1 : (j : Int) + 1 < (s.size : Int) := by omega
                  by_cases hsj : isSign s[j + 1] = true
                  · have hsn := refSign_any s[j + 1]
                    rw [hsj] at hsn
                    have HS2 := Lib.hid hsn
                    have hst2 := adv_step isSign hj3 hsj
                    have HJ2 : Hid (adv isSign s (j + 1 + 1) = en) := Lib.hid (hst2.symm.trans HJ.out)
                    clear hsn hst2
                    go_wp2_with fail
                    refine (HS2.out _).mono ?_
                    rintro e w2 ⟨rfl, rfl⟩
                    go_wp2_with fail
                    go_roundg (s.size - (j + 1))
                    case measure => omega
                    case rel => exact ⟨j + 1, by simp, by omega, hj3, rfl, rfl, HJ2⟩
                  · have hsn := refSign_any s[j + 1]
                    rw [show isSign s[j + 1] = false by simpa using hsj] at hsn
                    have HS2 := Lib.hid hsn
                    have HEN : Hid (en = j + 1) := Lib.hid (HJ.out.symm.trans (adv_stop isSign hj3 (by simpa using hsj)))
                    clear hsn
                    go_wp2_with fail
                    refine (HS2.out _).mono ?_
                    rintro e w2 ⟨rfl, rfl⟩
                    obtain rfl : en = j + 1 := HEN.out
                    have m0 : (0 : Int) ≤ (i : Int) := by omega
                    have m1 : (i : Int) ≤ (j : Int) + 1 := by omega
                    have m2 : (j : Int) + 1 ≤ (s.size : Int) := by omega
                    have hls := HLEN.out (f, b) (by simp)
                    simp only at hls
                    have hpa := put_any w.heap.size br wr f b st _ _ _ HST.out hsz (by omega) (by omega) (s.extract i (j + 1)) (.slice none 0 0) .nil false i (by unfold maxLen; simp; omega) (Sl.nil _ _)
                    have HPA := Lib.hid hpa
                    clear hpa
                    go_wp2_with fail
                    refine HPA.out.mono ?_
                    rintro e w2 ⟨rfl, ⟨vs2, h2⟩, hx2⟩
                    have hx02 : Ext (fun _ => False) w w2 := HX.out.trans hx2 (fun c hc e => by omega)
                    have H2 := Lib.hid h2
                    clear h2 hx2 HPA HST
                    go_wp2_with fail
                    go_roundg (s.size - (j + 1))
                    case measure => omega
                    case rel => exact ⟨j + 1, _, b, st, _, _, _, by simp, by omega, rfl, H2, hx02, by omega, Lib.hid (fun x hx => by
                      rcases List.mem_cons.1 hx with rfl | hx
                      · rw [F.len_app]; simp [F.len]; omega
                      · have := HLEN.out x (by simp [hx]); omega), HP2⟩
                · have p1 : ¬ (j : Int) + 1 < (s.size : Int) := by omega
                  have HEN : Hid (en = j + 1) := Lib.hid (HJ.out.symm.trans (adv_end isSign (by omega)))
                  obtain rfl : en = j + 1 := HEN.out
                  have m0 : (0 : Int) ≤ (i : Int) := by omega
                  have m1 : (i : Int) ≤ (j : Int) + 1 := by omega
                  have m2 : (j : Int) + 1 ≤ (s.size : Int) := by omega
                  have hls := HLEN.out (f, b) (by simp)
                  simp only at hls
                  have hpa := put_any w.heap.size br wr f b st _ _ _ HST.out hsz (by omega) (by omega) (s.extract i (j + 1)) (.slice none 0 0) .nil false i (by unfold maxLen; simp; omega) (Sl.nil _ _)
                  have HPA := Lib.hid hpa
                  clear hpa
                  go_wp2_with fail
                  refine HPA.out.mono ?_
                  rintro e w2 ⟨rfl, ⟨vs2, h2⟩, hx2⟩
                  have hx02 : Ext (fun _ => False) w w2 := HX.out.trans hx2 (fun c hc e => by omega)
                  have H2 := Lib.hid h2
                  clear h2 hx2 HPA HST
                  go_wp2_with fail
                  go_roundg (s.size - (j + 1))
                  case measure => omega
                  case rel => exact ⟨j + 1, _, b, st, _, _, _, by simp, by omega, rfl, H2, hx02, by omega, Lib.hid (fun x hx => by
                    rcases List.mem_cons.1 hx with rfl | hx
                    · rw [F.len_app]; simp [F.len]; omega
                    · have := HLEN.out x (by simp [hx]); omega), HP2⟩
            · rw [if_neg hsg] at hpe
              have er : spec = (.nil, i, 20) := HP.out.symm.trans hpe
              have hsn := refSign_any s[i]
              rw [show isSign s[i] = false by simpa using hsg] at hsn
              have HS := Lib.hid hsn
              clear hpe hsn hown hel hrest hlo
              go_wp2_with fail
              refine (HS.out _).mono ?_
              rintro e w2 ⟨rfl, rfl⟩
              go_wp2_with fail
              refine bodyPost_ret (v := .tuple #[.slice none 0 0, .int .i64 i, .int .i64 20]) (by simp [results, Tryd.results12, go_sem, *]) rfl ⟨HX.out, _, by rw [er], by rw [er]; exact Sl.nil _ _⟩
    · have i1 : ¬ (i : Int) < (s.size : Int) := by omega
      obtain rfl : i = s.size := by omega
      have hpe := refP_eq s s.size ((f, b) :: st) hi
      rw [dif_neg hlt] at hpe
      cases st with
      | nil =>
        obtain rfl : vs' = [] := List.eq_nil_of_length_eq_zero hvl.symm
        have er : spec = (f, 0, 0) := HP.out.symm.trans hpe
        have cv : wr.cell? ⟨g, 0, none⟩ = some v := by rw [hlo.cellAt _ (by simp)]; simp
        have hsl := (sl_of_owns hown hel).mono (D' := fun b => w.heap.size ≤ b) (fun c hc _ => hc.elim (fun h => h.1) (fun h => h.2))
        clear hpe hown hel hrest hlo
        have ER := Lib.hid er
        clear er
        go_wp2_with fail
        refine bodyPost_ret (v := .tuple #[v, .int .i64 0, .int .i64 0]) (by simp [results, Tryd.results12, go_sem, *]) rfl ⟨HX.out, v, by rw [ER.out]; rfl, by rw [ER.out]; exact hsl⟩
      | cons x st =>
        have er : spec = (.nil, s.size, 20) := HP.out.symm.trans (hpe.trans (by rw [if_pos (by simp)]))
        have k1 : (1 : Int) < (vs'.length : Int) + 1 := by simp at hvl; omega
        clear hpe hown hel hrest hlo
        go_wp2_with fail
        refine bodyPost_ret (v := .tuple #[.slice none 0 0, .int .i64 s.size, .int .i64 20]) (by simp [results, Tryd.results12, go_sem, *]) rfl ⟨HX.out, _, rfl, Sl.nil _ _⟩

end Go.Proofs.YthiaikbdghmnbaaDoor
