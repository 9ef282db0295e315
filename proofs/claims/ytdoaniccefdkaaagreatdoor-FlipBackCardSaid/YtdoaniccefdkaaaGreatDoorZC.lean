/- Part of the proof. No conditions. -/
import Derived.Test.YtdoaniccefdkaaaGreatDoorZ7
import Derived.Test.YtdoaniccefdkaaaGreatDoorZ8
import Derived.Test.YtdoaniccefdkaaaGreatDoorZB
import Derived.Laws.AppendOwn
import Derived.Shelf.SlicesG.Cmp
import Derived.Deep.RegionHeld3
import Derived.Handy
import Derived.Sort.Grow
import Derived.Deep.CutRange
import Derived.Shelf.SlLaysF0
import Derived.Ground.SlsfProg
import Derived.Shelf.SlGeneric
import Derived.Test.YtdoaniccefdkaaaGreatDoorChecked
import Derived.Shelf.SlSortCmp.NoneTotal

set_option linter.all false
/- (*Mesh).Kill: a triangle goes. -/
namespace Go.Proofs.YtdoaniccefdkaaaGreatDoor
open Go.RowKit Go.Maps Go.WideMaps

set_option maxRecDepth 100000 in
set_option maxHeartbeats 4000000 in
theorem kill_some {w : World} {mb n : Nat} {M : MeshM} {F : Nat → Prop} (h : MeshAt w mb n M F) (hn : n ≤ 1000000000) {a b c : Int} (ha : i64ok a) (hb : i64ok b) (hc : i64ok c) (hk : M.ap a b = some c) :
    Calls Tryz.prog 29 #[.pointer (some ⟨mb, 0, none⟩), .int .i64 a, .int .i64 b, .int .i64 c] w fun r w' =>
      r = .returned (.int .i64 0) ∧ MeshAt w' mb (n + 3) (killM M a b c) (fun i => F i ∨ (w.heap.size ≤ i ∧ i < w'.heap.size)) ∧ Stay F w w' := by
  obtain ⟨ba, bs, bf, pv, sv, h⟩ := h
  have c1 := h.c1
  have HL := Lib.hid (lookE h.apm ha hb)
  rw [hk] at HL
  have HAR := Lib.hid (around_walk a b c w)
  have HP := Lib.hid h
  have HE0 := Lib.hid ha
  have HE1 := Lib.hid hb
  have HE2 := Lib.hid hc
  clear h ha hb hc hk
  have hl := HL.out
  simp only [Option.getD_some, Option.isSome_some] at hl
  have hi0 := idx3_0 (.int .i64 a) (.int .i64 b) (.int .i64 b) (.int .i64 c) (.int .i64 c) (.int .i64 a)
  have hi1 := idx3_1 (.int .i64 a) (.int .i64 b) (.int .i64 b) (.int .i64 c) (.int .i64 c) (.int .i64 a)
  have hi2 := idx3_2 (.int .i64 a) (.int .i64 b) (.int .i64 b) (.int .i64 c) (.int .i64 c) (.int .i64 a)
  go_enter Tryz.func29, Tryz.ntmps29
  go_wp2_with (go_at_call 91; refine HAR.out.mono ?_; rintro r w1 ⟨rfl, hb1⟩)
  have HB1 := Lib.hid hb1
  clear HAR hb1 c1 hl HL
  go_loopw [37] (fun i wq => ∃ (k : Nat) (sv' : Int → Option Value), k ≤ 3 ∧ i = .int .i64 k ∧ Hid (MeshParts wq mb ba bs bf (n + k) pv sv' (Dk M a b c k) (fun i => F i ∨ (w.heap.size ≤ i ∧ i < wq.heap.size))) ∧ Hid (Stay F w wq)) (fun i _ => 3 - (intOf i).toNat)
  case atStart =>
    refine ⟨0, sv, by omega, rfl, (HP.out.below HB1.out).wider (fun g hg => .inl hg) (fun g hg => ?_), Stay.of_below HB1.out⟩
    rcases hg with hg | hg
    · exact Nat.lt_of_lt_of_le (HP.out.flt g hg) HB1.out.size
    · exact hg.2
  case round =>
    obtain ⟨k, sv', hk, rfl, HQ, HS2⟩ := hrel
    by_cases hlt : k < 3
    · have hk3 : k = 0 ∨ k = 1 ∨ k = 2 := by omega
      obtain ⟨W, hW⟩ : ∃ W, W = wr.alloc (.cells #[.int .i64 (triI a b c k), .int .i64 (triI a b c (k + 1))] 117) := ⟨_, rfl⟩
      have HBW : Hid (Below wr.heap.size wr W) := by rw [hW]; exact (Below.refl _ _).alloc (Nat.le_refl _) _
      have e0 : W.cell? ⟨wr.heap.size, 0, none⟩ = some (.int .i64 (triI a b c k)) := by rw [hW, World.cell?_alloc_at _ _ _ _ rfl]; rfl
      have e1 : W.cell? ⟨wr.heap.size, 1, none⟩ = some (.int .i64 (triI a b c (k + 1))) := by rw [hW, World.cell?_alloc_at _ _ _ _ rfl]; rfl
      have c1 := (HQ.out.below HBW.out).c1
      have c2 := (HQ.out.below HBW.out).c2
      have HAP := Lib.hid (HQ.out.below HBW.out.drew).apm
      have HW := Lib.hid hW
      have HKX : Hid (i64ok (triI a b c k : Int)) := by rcases hk3 with rfl | rfl | rfl <;> first | exact HE0.out | exact HE1.out | exact HE2.out
      have HKY : Hid (i64ok (triI a b c (k + 1) : Int)) := by rcases hk3 with rfl | rfl | rfl <;> first | exact HE0.out | exact HE1.out | exact HE2.out
      have HK := Lib.hid (keyE HKX.out HKY.out)
      have HSP := Lib.hid (HQ.out.below HBW.out).spm
      have HROW := Lib.hid ((HQ.out.below HBW.out).rows.at (triI a b c k))
      have HRB := Lib.hid ((HQ.out.below HBW.out).row_ne (HQ.out.below HBW.out.drew).apm (triI a b c k))
      have HRF := Lib.hid (HQ.out.row_facts (triI a b c k))
      have HSL := Lib.hid (HQ.out.spl (triI a b c k))
      have HNE : Hid (mb ≠ ba ∧ bs ≠ ba ∧ wr.heap.size ≠ ba) := ⟨HQ.out.mb_ne HQ.out.apm, Ne.symm HQ.out.nab, fun e => by have := HQ.out.apm.lt; omega⟩
      clear hW
      rcases hk3 with rfl | rfl | rfl
      · simp [triI] at c1 e0 e1 HK HAP HSP HROW HRB HRF HSL HKX
        go_wp2
        have hW' := HW.out
        simp [triI] at hW'
        rw [← hW']
        clear hW'
        go_still_tail 5, (by kernel_rfl)
        clear c1
        go_wp2_with (at_delete; refine wp_delete _ rfl _ _ 113 117 rfl 3 edgeLaw Tryz.underlying113 ba _ _ rfl HAP.out _ rfl _ HK.out ?_; intro W2 hap2 hg2)
        go_frame
        have HG2 : Hid (W.grownBy W2 (some ba)) := grown_drew (w := W) hg2
        have HAP2 := Lib.hid hap2
        clear hap2 hg2
        have n2 : Reads3 W2.drew mb bs wr.heap.size (.int .i64 a) (.int .i64 b) := Reads3.grown (w := W) (w' := W2) ⟨c2, e0, e1⟩ HG2.out (by simpa using HNE.out.1) (by simpa using HNE.out.2.2)
        have HSP2 := Lib.hid (FMap.kept HSP.out HG2.out (by simpa using HNE.out.2.1))
        have hS2 := lookS (w := W2.drew) HSP2.out HKX.out
        have HOI := Lib.hid (World.ownsInts.kept HROW.out HG2.out (.inr HRB.out))
        have HD := Lib.hid (deleteFunc_walk (w := W2.drew) HOI.out wr.heap.size b n2.2.2 HRF.out.2.1 (by have := HSL.out; omega))
        clear c2 e0 e1
        go_region_held3 (fun w' => w'.cell? ⟨mb, 2, none⟩ = some (.map (some bs)) ∧ w'.cell? ⟨wr.heap.size, 0, none⟩ = some (.int .i64 a) ∧ w'.cell? ⟨wr.heap.size, 1, none⟩ = some (.int .i64 b)) (first | assumption | exact n2 | exact n3 | exact n4)
          (first
            | (go_at_call 92; refine HD.out.mono ?_
               rintro r W3 ⟨v3, rfl, hown3, hg3, hloc3⟩
               have n3 := Reads3.grown n2 hg3 (fun e => HRF.out.1 e.symm) (fun e => HRF.out.2.1 e.symm)
               obtain ⟨W4, hrun4, hsp4, hg4⟩ := FMap.store (key := .int .i64 a) (FMap.kept HSP2.out.drew hg3 (fun e => HRF.out.2.2.1 e.symm)) intLaw Tryz.underlying114 (by unfold maxLen; omega) (keyI HKX.out) v3
               have n4 := Reads3.grown n3 hg4 (by simpa using HRF.out.2.2.2.1) (by simpa using HRF.out.2.2.2.2)))
        all_goals
          go_wp2
          obtain ⟨p1, p2⟩ := round_del (n := n + 0) (M := Dk M a b c 0) HQ.out HS2.out HP.out.flt HBW.out HG2.out HAP2.out ((Below.refl _ W2).drew) v3 hg3 hown3 hloc3 hsp4 hg4
          refine ⟨?_, ?_⟩
          · exact ⟨1, _, by omega, rfl, p1, p2⟩
          · simp [intOf]
      · simp [triI] at c1 e0 e1 HK HAP HSP HROW HRB HRF HSL HKX
        go_wp2
        have hW' := HW.out
        simp [triI] at hW'
        rw [← hW']
        clear hW'
        go_still_tail 5, (by kernel_rfl)
        clear c1
        go_wp2_with (at_delete; refine wp_delete _ rfl _ _ 113 117 rfl 3 edgeLaw Tryz.underlying113 ba _ _ rfl HAP.out _ rfl _ HK.out ?_; intro W2 hap2 hg2)
        go_frame
        have HG2 : Hid (W.grownBy W2 (some ba)) := grown_drew (w := W) hg2
        have HAP2 := Lib.hid hap2
        clear hap2 hg2
        have n2 : Reads3 W2.drew mb bs wr.heap.size (.int .i64 b) (.int .i64 c) := Reads3.grown (w := W) (w' := W2) ⟨c2, e0, e1⟩ HG2.out (by simpa using HNE.out.1) (by simpa using HNE.out.2.2)
        have HSP2 := Lib.hid (FMap.kept HSP.out HG2.out (by simpa using HNE.out.2.1))
        have hS2 := lookS (w := W2.drew) HSP2.out HKX.out
        have HOI := Lib.hid (World.ownsInts.kept HROW.out HG2.out (.inr HRB.out))
        have HD := Lib.hid (deleteFunc_walk (w := W2.drew) HOI.out wr.heap.size c n2.2.2 HRF.out.2.1 (by have := HSL.out; omega))
        clear c2 e0 e1
        go_region_held3 (fun w' => w'.cell? ⟨mb, 2, none⟩ = some (.map (some bs)) ∧ w'.cell? ⟨wr.heap.size, 0, none⟩ = some (.int .i64 b) ∧ w'.cell? ⟨wr.heap.size, 1, none⟩ = some (.int .i64 c)) (first | assumption | exact n2 | exact n3 | exact n4)
          (first
            | (go_at_call 92; refine HD.out.mono ?_
               rintro r W3 ⟨v3, rfl, hown3, hg3, hloc3⟩
               have n3 := Reads3.grown n2 hg3 (fun e => HRF.out.1 e.symm) (fun e => HRF.out.2.1 e.symm)
               obtain ⟨W4, hrun4, hsp4, hg4⟩ := FMap.store (key := .int .i64 b) (FMap.kept HSP2.out.drew hg3 (fun e => HRF.out.2.2.1 e.symm)) intLaw Tryz.underlying114 (by unfold maxLen; omega) (keyI HKX.out) v3
               have n4 := Reads3.grown n3 hg4 (by simpa using HRF.out.2.2.2.1) (by simpa using HRF.out.2.2.2.2)))
        all_goals
          go_wp2
          obtain ⟨p1, p2⟩ := round_del (n := n + 1) (M := Dk M a b c 1) HQ.out HS2.out HP.out.flt HBW.out HG2.out HAP2.out ((Below.refl _ W2).drew) v3 hg3 hown3 hloc3 hsp4 hg4
          refine ⟨?_, ?_⟩
          · exact ⟨2, _, by omega, rfl, p1, p2⟩
          · simp [intOf]
      · simp [triI] at c1 e0 e1 HK HAP HSP HROW HRB HRF HSL HKX
        go_wp2
        have hW' := HW.out
        simp [triI] at hW'
        rw [← hW']
        clear hW'
        go_still_tail 5, (by kernel_rfl)
        clear c1
        go_wp2_with (at_delete; refine wp_delete _ rfl _ _ 113 117 rfl 3 edgeLaw Tryz.underlying113 ba _ _ rfl HAP.out _ rfl _ HK.out ?_; intro W2 hap2 hg2)
        go_frame
        have HG2 : Hid (W.grownBy W2 (some ba)) := grown_drew (w := W) hg2
        have HAP2 := Lib.hid hap2
        clear hap2 hg2
        have n2 : Reads3 W2.drew mb bs wr.heap.size (.int .i64 c) (.int .i64 a) := Reads3.grown (w := W) (w' := W2) ⟨c2, e0, e1⟩ HG2.out (by simpa using HNE.out.1) (by simpa using HNE.out.2.2)
        have HSP2 := Lib.hid (FMap.kept HSP.out HG2.out (by simpa using HNE.out.2.1))
        have hS2 := lookS (w := W2.drew) HSP2.out HKX.out
        have HOI := Lib.hid (World.ownsInts.kept HROW.out HG2.out (.inr HRB.out))
        have HD := Lib.hid (deleteFunc_walk (w := W2.drew) HOI.out wr.heap.size a n2.2.2 HRF.out.2.1 (by have := HSL.out; omega))
        clear c2 e0 e1
        go_region_held3 (fun w' => w'.cell? ⟨mb, 2, none⟩ = some (.map (some bs)) ∧ w'.cell? ⟨wr.heap.size, 0, none⟩ = some (.int .i64 c) ∧ w'.cell? ⟨wr.heap.size, 1, none⟩ = some (.int .i64 a)) (first | assumption | exact n2 | exact n3 | exact n4)
          (first
            | (go_at_call 92; refine HD.out.mono ?_
               rintro r W3 ⟨v3, rfl, hown3, hg3, hloc3⟩
               have n3 := Reads3.grown n2 hg3 (fun e => HRF.out.1 e.symm) (fun e => HRF.out.2.1 e.symm)
               obtain ⟨W4, hrun4, hsp4, hg4⟩ := FMap.store (key := .int .i64 c) (FMap.kept HSP2.out.drew hg3 (fun e => HRF.out.2.2.1 e.symm)) intLaw Tryz.underlying114 (by unfold maxLen; omega) (keyI HKX.out) v3
               have n4 := Reads3.grown n3 hg4 (by simpa using HRF.out.2.2.2.1) (by simpa using HRF.out.2.2.2.2)))
        all_goals
          go_wp2
          obtain ⟨p1, p2⟩ := round_del (n := n + 2) (M := Dk M a b c 2) HQ.out HS2.out HP.out.flt HBW.out HG2.out HAP2.out ((Below.refl _ W2).drew) v3 hg3 hown3 hloc3 hsp4 hg4
          refine ⟨?_, ?_⟩
          · exact ⟨3, _, by omega, rfl, p1, p2⟩
          · simp [intOf]
    · have e : k = 3 := by omega
      subst e
      have c3 := HQ.out.c3
      have fz := HQ.out.fz 3
      have HCB := Lib.hid HQ.out.cb
      have HCM := Lib.hid (Dk_cnt M a b c 3)
      have HCP := Lib.hid HP.out.cb
      have hwr : IntKind.i64.wrap ((Dk M a b c 3).cnt - 1) = (Dk M a b c 3).cnt - 1 := by
        have := HCB.out
        simp [IntKind.wrap, IntKind.bits, IntKind.signed]; omega
      clear hlt hk
      go_wp2
      go_ret
      obtain ⟨q1, q2⟩ := cnt_parts HQ.out ((Dk M a b c 3).cnt - 1) (by have := HCM.out; have := HCP.out; omega)
      refine ⟨rfl, ⟨ba, bs, bf, pv, sv', ?_⟩, HS2.out.trans (q2.mono fun i hi => hi.elim .inl (fun e => .inr e.1))⟩
      rw [HCM.out] at q1
      refine q1.wider (fun g hg => ?_) (fun g hg => ?_)
      · rcases hg with hg | hg
        · exact .inl hg
        · exact .inr ⟨hg.1, by rw [World.size_setCell]; exact hg.2⟩
      · rcases hg with hg | hg
        · rw [World.size_setCell]; exact Nat.lt_of_lt_of_le (HP.out.flt g hg) HS2.out.size
        · exact hg.2

theorem kill_walk {w : World} {mb n : Nat} {M : MeshM} {F : Nat → Prop} (h : MeshAt w mb n M F) (hn : n ≤ 1000000000) {a b c : Int} (ha : i64ok a) (hb : i64ok b) (hc : i64ok c) :
    Calls Tryz.prog 29 #[.pointer (some ⟨mb, 0, none⟩), .int .i64 a, .int .i64 b, .int .i64 c] w fun r w' =>
      r = .returned (.int .i64 (killCode M a b c)) ∧ MeshAt w' mb (n + 3) (killR M a b c) (fun i => F i ∨ (w.heap.size ≤ i ∧ i < w'.heap.size)) ∧ Stay F w w' := by
  unfold killCode killR
  by_cases hk : M.ap a b = some c
  · rw [if_pos hk, if_pos hk]
    exact kill_some h hn ha hb hc hk
  · rw [if_neg hk, if_neg hk]
    refine (kill_none h ha hb hk).mono ?_
    rintro r w' ⟨rfl, rfl⟩
    exact ⟨rfl, h.stays (Below.refl _ _) (by omega), Stay.refl _ _⟩

end Go.Proofs.YtdoaniccefdkaaaGreatDoor

/- (*Mesh).Spokes. -/
namespace Go.Proofs.YtdoaniccefdkaaaGreatDoor
open Go.RowKit Go.Maps Go.WideMaps Go.Sort

/-- the points that Spokes gathers, and what it answers -/
def rawOf (ap : Int → Int → Option Int) (a : Int) (l : List Int) : List Int := l.flatMap fun b => [b, (ap a b).getD 0]
def spokesL (M : MeshM) (a : Int) : List Int := Lib.compact (sortL (rawOf M.ap a (M.sp a)))
theorem rawOf_len (ap : Int → Int → Option Int) (a : Int) (l : List Int) : (rawOf ap a l).length = 2 * l.length := by
  induction l with
  | nil => rfl
  | cons x r ih => unfold rawOf at *; rw [List.flatMap_cons, List.length_append, ih]; simp; omega
theorem rawOf_snoc (ap : Int → Int → Option Int) (a : Int) (l : List Int) (b : Int) : rawOf ap a (l ++ [b]) = rawOf ap a l ++ [b, (ap a b).getD 0] := by
  unfold rawOf; rw [List.flatMap_append]; simp
theorem rawOf_wf {ap : Int → Int → Option Int} {a : Int} {l : List Int} (hl : ∀ z ∈ l, (Lit.int .i64 z).wf = true) (ha : ∀ b c, ap a b = some c → i64ok c) : ∀ z ∈ rawOf ap a l, (Lit.int .i64 z).wf = true := by
  intro z hz
  unfold rawOf at hz
  obtain ⟨b, hb, hz⟩ := List.mem_flatMap.1 hz
  simp only [List.mem_cons, List.not_mem_nil, or_false] at hz
  rcases hz with rfl | rfl
  · exact hl _ hb
  · cases e : ap a b with
    | none => exact wf_of (by unfold i64ok; simp)
    | some c => exact wf_of (ha b c e)

/-- the numbers, as the walk reads them -/
theorem ints_cells {w : World} {base : Nat} {v : Value} {zs : List Int} (h : w.ownsInts base 3 .i64 v zs) : ∃ ad cap, v = .slice ad zs.length cap ∧ (0 < zs.length → ∃ g, ad = some ⟨g, 0, none⟩ ∧ v.ownBlock = some g ∧ ∀ i, i < zs.length → w.cell? ⟨g, i, none⟩ = some (.int .i64 (zs.getD i 0))) := by
  rcases h.1.2 with ⟨h1, h2⟩ | ⟨g, cap, cur, rfl, hb, hh, hn, hm, hs, ht⟩
  · exact ⟨none, 0, by rw [h2]; exact h1, fun hl => absurd h2 (by omega)⟩
  · refine ⟨_, cap, rfl, fun _ => ⟨g, rfl, rfl, fun i hi => ?_⟩⟩
    rw [h.1.cellAt i (by omega), List.getElem?_map, List.getElem?_eq_getElem hi]
    simp [hi]

theorem take_snocI (l : List Int) (n : Nat) (h : n < l.length) : l.take (n + 1) = l.take n ++ [l.getD n 0] := by
  rw [List.take_add_one, List.getElem?_eq_getElem h, List.getD_eq_getElem?_getD, List.getElem?_eq_getElem h]; rfl

theorem wrapS {k : Nat} (h : k ≤ 4000000000000) : wrap64 ((k : Int) + 1) = ((k + 1 : Nat) : Int) := by unfold wrap64; omega

set_option maxRecDepth 100000 in
set_option maxHeartbeats 4000000 in
theorem spokes_walk {w : World} {mb n : Nat} {M : MeshM} {F : Nat → Prop} (h : MeshAt w mb n M F) (hv : ∀ a b c, M.ap a b = some c → i64ok c) (hn : n ≤ 1000000000) {a : Int} (ha : i64ok a) :
    Calls Tryz.prog 84 #[.pointer (some ⟨mb, 0, none⟩), .int .i64 a] w fun r w' => ∃ v, r = .returned v ∧ w'.ownsInts w.heap.size 3 .i64 v (spokesL M a) ∧ Below w.heap.size w w' := by
  obtain ⟨ba, bs, bf, pv, sv, h⟩ := h
  have c1 := h.c1
  have c2 := h.c2
  have HC1 := Lib.hid h.c1
  have HF := Lib.hid h.apm
  have HS := lookS (w := w) h.spm ha
  have HROW := Lib.hid (h.rows.at a)
  have HSL := Lib.hid (h.spl a)
  have HMB := Lib.hid (h.flt mb h.fmb)
  have HA := Lib.hid ha
  have HV := Lib.hid hv
  obtain ⟨ad, cap, hsv, hcells⟩ := ints_cells (h.rows.at a)
  rw [hsv] at HS
  have HCE := Lib.hid hcells
  have HBL : Hid (∀ g, (atSv sv a).ownBlock = some g → g < w.heap.size) := fun g hg => ((h.rows.at a).1.lt g hg).2
  have HWF := Lib.hid (h.rows.at a).2
  obtain ⟨i0, hi, hz0, hz1, hz2⟩ := info_parts infoInt
  unfold spokesL
  generalize hzs : M.sp a = zs at *
  clear h hcells ha hv hsv hzs
  go_enter Tryz.func84, Tryz.ntmps84
  go_wp2
  go_loopw [5, 17] (fun s5 s17 wr => ∃ k : Nat, k ≤ zs.length ∧ s17 = .int .i64 k ∧ Hid (wr.ownsInts w.heap.size 3 .i64 s5 (rawOf M.ap a (zs.take k))) ∧ Hid (Below w.heap.size w wr)) (fun _ i _ => zs.length - (intOf i).toNat)
  case atStart => exact ⟨0, Nat.zero_le _, rfl, World.ownsInts_nil _ _ _ _, Below.refl _ _⟩
  case round =>
    obtain ⟨k, hk, rfl, HO, HB⟩ := hrel
    by_cases hlt : k < zs.length
    · obtain ⟨g, rfl, hgb, hce⟩ := HCE.out (by omega)
      have hgl := HBL.out g hgb
      have hc := (HB.out.cell (p := ⟨g, k, none⟩) hgl).trans (hce k hlt)
      have c1' := (HB.out.cell (p := ⟨mb, 1, none⟩) HMB.out).trans HC1.out
      have HBW := Lib.hid (HWF.out (zs.getD k 0) (by rw [List.getD_eq_getElem?_getD, List.getElem?_eq_getElem hlt]; exact List.getElem_mem hlt))
      have HTK := Lib.hid (take_snocI zs k hlt)
      have HLEN : Hid ((rawOf M.ap a (zs.take k)).length ≤ 2000000000) := by unfold Hid; rw [rawOf_len, List.length_take]; have := HSL.out; omega
      clear hce hgb
      generalize zs.getD k 0 = b at *
      have hL := (FMap.look (HF.out.same (w' := wr) (HB.out.block ba HF.out.lt)) edgeLaw Tryz.underlying113 (zeroInt wr) (keyE HA.out (of_wf HBW.out))).1
      rw [edgeV_getD] at hL
      unfold kE at hL
      have HCW : Hid ((Lit.int .i64 ((M.ap a b).getD 0)).wf = true) := by
        cases e : M.ap a b with
        | none => exact wf_of (by unfold i64ok; simp)
        | some c => exact wf_of (HV.out a b c e)
      have HSN := Lib.hid (rawOf_snoc M.ap a (zs.take k) b)
      generalize (M.ap a b).getD 0 = c at *
      go_wp2_with (first | (at_builtin; refine wpList_append_own _ rfl _ _ 72 rfl w.heap.size 3 i0 (.int .i64 0) 1 8 Tryz.underlying72 hi hz0 hz1 hz2 rfl (by decide) u5 (rawOf M.ap a (zs.take k)).length ((rawOf M.ap a (zs.take k)).map (Value.int .i64)) rfl (HO.out.1.alloc _) ⟨wr.heap.size, 0, none⟩ 2 2 [.int .i64 b, .int .i64 c] rfl ?qc1 ?qc2 ?qc3 ?qc4 ?qc5 ?qc6 ?_) | go_in)
      case qc1 => rfl
      case qc2 => exact cells_new wr [.int .i64 b, .int .i64 c] 3
      case qc3 => intro u hu; simp at hu; rcases hu with rfl | rfl <;> rfl
      case qc4 => have := HLEN.out; unfold maxLen; omega
      case qc5 => have := HLEN.out; omega
      case qc6 => have := HB.out.size; simp; omega
      intro v' w2 hown hgrow hnil
      have HO2 : Hid (w2.ownsInts w.heap.size 3 .i64 v' (rawOf M.ap a (zs.take (k + 1)))) := by
        unfold Hid
        rw [HTK.out, HSN.out]
        refine ⟨?_, fun z hz => ?_⟩
        · simpa using hown
        · rcases List.mem_append.1 hz with hz | hz
          · exact HO.out.2 z hz
          · simp only [List.mem_cons, List.not_mem_nil, or_false] at hz
            rcases hz with rfl | rfl
            · exact HBW.out
            · exact HCW.out
      have HB2 : Hid (Below w.heap.size w w2) := (HB.out.alloc HB.out.size _).grown hgrow (by have := HB.out.size; simp; omega) (fun j hj => (HO.out.1.lt j hj).1)
      clear hown hgrow hnil
      go_wp2
      go_roundw
      case rel => exact ⟨k + 1, by omega, (by rw [wrapS (by have := HSL.out; omega)]), HO2.out, HB2.out⟩
      case measure =>
        rw [wrapS (by have := HSL.out; omega)]
        simp [intOf]; omega
    · have e : k = zs.length := by omega
      subst e
      rw [List.take_length] at HO
      have HRL : Hid ((rawOf M.ap a zs).length ≤ 2000000000) := by unfold Hid; rw [rawOf_len]; have := HSL.out; omega
      have HSO := Lib.hid (sortInt_walk HO.out (by have := HRL.out; omega))
      have HCO : Hid (∀ w2, w2.ownsInts w.heap.size 3 .i64 u5 (sortL (rawOf M.ap a zs)) → Calls Tryz.prog 122 #[u5] w2 fun r w' => ∃ v', r = .returned v' ∧ w'.ownsInts w.heap.size 3 .i64 v' (Lib.compact (sortL (rawOf M.ap a zs))) ∧ w2.grownBy w' u5.ownBlock ∧ v'.ownBlock = u5.ownBlock) := fun w2 h2 =>
        compactInt_walk h2 (fun z hz => h2.2 z (compact_sub _ z hz)) (by rw [sortL_len]; have := HRL.out; omega)
      clear hlt hk HS HCE
      go_wp2_with (first
        | (go_at_call 121; refine HSO.out.mono ?_; rintro r w2 ⟨rfl, h2, g2⟩)
        | (go_at_call 122; refine (HCO.out _ h2).mono ?_; rintro r w3 ⟨v3, rfl, h3, g3, e3⟩))
      go_ret
      have b2 : Below w.heap.size w w2 := HB.out.grown g2 HB.out.size (fun j hj => (HO.out.1.lt j hj).1)
      exact ⟨_, rfl, h3, b2.grown g3 b2.size (fun j hj => (HO.out.1.lt j hj).1)⟩

end Go.Proofs.YtdoaniccefdkaaaGreatDoor

/- slices.Compare at three numbers a side; the order of triangles in their own form. -/
namespace Go.Proofs.YtdoaniccefdkaaaGreatDoor
open Go.RowKit

/-- what slices.Compare answers at three numbers a side -/
def cmpT (x y : Tri3) : Int := if x.1 ≠ y.1 then Lib.compareInt x.1 y.1 else if x.2.1 ≠ y.2.1 then Lib.compareInt x.2.1 y.2.1 else Lib.compareInt x.2.2 y.2.2
theorem compareInt_ne {x y : Int} : Lib.compareInt x y ≠ 0 ↔ x ≠ y := by
  unfold Lib.compareInt
  by_cases h1 : x < y
  · simp [h1]; omega
  · by_cases h2 : x > y
    · simp [h1, h2]; omega
    · simp [h1, h2]; omega
theorem compareInt_self (x : Int) : Lib.compareInt x x = 0 := by unfold Lib.compareInt; simp

def compT (x : Tri3) (k : Nat) : Int := if k = 0 then x.1 else if k = 1 then x.2.1 else x.2.2

theorem cmpInt_walk (x y : Int) (w : World) : Calls Tryz.prog 159 #[.int .i64 x, .int .i64 y] w fun e w' => e = .returned (.int .i64 (Lib.compareInt x y)) ∧ w' = w :=
  AnyG.cmp_Compare_int (P := Tryz.prog) Tryz.cmpInt x y w

theorem cmpT_at {x y : Tri3} {k : Nat} (hk : k < 3) (he : ∀ j, j < k → compT x j = compT y j) (hn : compT x k ≠ compT y k) : cmpT x y = Lib.compareInt (compT x k) (compT y k) := by
  unfold cmpT
  have h0 := he 0
  have h1 := he 1
  have : k = 0 ∨ k = 1 ∨ k = 2 := by omega
  rcases this with rfl | rfl | rfl
  · simp [compT] at hn ⊢; simp [hn]
  · have := h0 (by omega); simp [compT] at this hn ⊢; simp [this, hn]
  · have a := h0 (by omega); have b := h1 (by omega); simp [compT] at a b hn ⊢; simp [a, b]
theorem cmpT_eq {x y : Tri3} (he : ∀ j, j < 3 → compT x j = compT y j) : cmpT x y = 0 := by
  have h0 := he 0 (by omega)
  have h1 := he 1 (by omega)
  have h2 := he 2 (by omega)
  simp [compT] at h0 h1 h2
  unfold cmpT
  rw [if_neg (by simpa using h0), if_neg (by simpa using h1), h2, compareInt_self]

set_option maxRecDepth 100000 in
set_option maxHeartbeats 1000000 in
theorem compare_walk (p q : Nat) (x y : Tri3) (w : World) (x0 : w.cell? ⟨p, 0, none⟩ = some (.int .i64 x.1)) (x1 : w.cell? ⟨p, 1, none⟩ = some (.int .i64 x.2.1)) (x2 : w.cell? ⟨p, 2, none⟩ = some (.int .i64 x.2.2))
    (y0 : w.cell? ⟨q, 0, none⟩ = some (.int .i64 y.1)) (y1 : w.cell? ⟨q, 1, none⟩ = some (.int .i64 y.2.1)) (y2 : w.cell? ⟨q, 2, none⟩ = some (.int .i64 y.2.2)) :
    Calls Tryz.prog 110 #[.slice (some ⟨p, 0, none⟩) 3 3, .slice (some ⟨q, 0, none⟩) 3 3] w fun e w' => e = .returned (.int .i64 (cmpT x y)) ∧ w' = w := by
  have hX : ∀ k, k < 3 → w.cell? ⟨p, k, none⟩ = some (.int .i64 (compT x k)) := fun k hk => by
    have : k = 0 ∨ k = 1 ∨ k = 2 := by omega
    rcases this with rfl | rfl | rfl <;> assumption
  have hY : ∀ k, k < 3 → w.cell? ⟨q, k, none⟩ = some (.int .i64 (compT y k)) := fun k hk => by
    have : k = 0 ∨ k = 1 ∨ k = 2 := by omega
    rcases this with rfl | rfl | rfl <;> assumption
  have HX := Lib.hid hX
  have HY := Lib.hid hY
  clear hX hY x0 x1 x2 y0 y1 y2
  go_enter Tryz.func110, Tryz.ntmps110
  go_wp2
  go_loopw [11] (fun i wr => ∃ k : Nat, k ≤ 3 ∧ i = .int .i64 k ∧ wr = w ∧ Hid (∀ j, j < k → compT x j = compT y j)) (fun i _ => 3 - (intOf i).toNat)
  case atStart => exact ⟨0, by omega, rfl, rfl, fun j hj => by omega⟩
  case round =>
    obtain ⟨k, hk, rfl, rfl, HE⟩ := hrel
    by_cases hlt : k < 3
    · have hx := HX.out k hlt
      have hy := HY.out k hlt
      have HC := Lib.hid (cmpInt_walk (compT x k) (compT y k))
      by_cases he : compT x k = compT y k
      · have hz : Lib.compareInt (compT x k) (compT y k) = 0 := by rw [he, compareInt_self]
        rw [hz] at HC
        have HN : Hid (∀ j, j < k + 1 → compT x j = compT y j) := fun j hj => by
          by_cases q : j = k
          · rw [q]; exact he
          · exact HE.out j (by omega)
        clear he hz
        go_wp2_with (go_at_call 159; refine (HC.out _).mono ?_; rintro r w1 ⟨rfl, rfl⟩)
        go_roundw
        case rel => exact ⟨k + 1, by omega, by rfl, (by first | trivial | rfl), HN⟩
        case measure => simp [intOf]; omega
      · have HA := Lib.hid (cmpT_at hlt HE.out he)
        have hne := compareInt_ne.2 he
        clear he
        rw [← HA.out] at HC hne
        go_wp2_with (go_at_call 159; refine (HC.out _).mono ?_; rintro r w1 ⟨rfl, rfl⟩)
        go_ret
        exact ⟨rfl, rfl⟩
    · have e : k = 3 := by omega
      subst e
      have HQ := Lib.hid (cmpT_eq HE.out)
      clear hlt hk HE
      go_wp2
      go_ret
      refine ⟨?_, rfl⟩
      rw [HQ.out]; rfl

end Go.Proofs.YtdoaniccefdkaaaGreatDoor

/- mesh.sorted at triangles: the closures. -/
namespace Go.Proofs.YtdoaniccefdkaaaGreatDoor
open Go.RowKit

def vT (x : Tri3) : Value := .agg #[.int .i64 x.1, .int .i64 x.2.1, .int .i64 x.2.2]

theorem triKey_walk (x : Tri3) (w : World) :
    Calls Tryz.prog 68 #[vT x] w fun e w' => e = .returned (vT x) ∧ w' = ((w.alloc (.cells #[.int .i64 x.1, .int .i64 x.2.1, .int .i64 x.2.2] 45)).alloc (.cells #[.int .i64 x.1, .int .i64 x.2.1, .int .i64 x.2.2] 44)) := by
  obtain ⟨a, b, c⟩ := x
  unfold vT
  go_enter Tryz.func68, Tryz.ntmps68
  go_wp2
  go_returns
  exact ⟨rfl, rfl⟩

end Go.Proofs.YtdoaniccefdkaaaGreatDoor

/- mesh.sorted at triangles: how two are held against each other. -/
namespace Go.Proofs.YtdoaniccefdkaaaGreatDoor
open Go.RowKit

/-- what the closure of mesh.sorted reads -/
def CmpS (w : World) (kb : Nat) (k : Value) (b c : Nat) (x y : Tri3) : Prop := w.cell? ⟨kb, 0, none⟩ = some k ∧ w.cell? ⟨b, 0, none⟩ = some (.int .i64 x.1) ∧ w.cell? ⟨b, 1, none⟩ = some (.int .i64 x.2.1) ∧ w.cell? ⟨b, 2, none⟩ = some (.int .i64 x.2.2)
      ∧ w.cell? ⟨c, 0, none⟩ = some (.int .i64 y.1) ∧ w.cell? ⟨c, 1, none⟩ = some (.int .i64 y.2.1) ∧ w.cell? ⟨c, 2, none⟩ = some (.int .i64 y.2.2)
theorem CmpS.drew {w : World} {kb : Nat} {k : Value} {b c : Nat} {x y : Tri3} (h : CmpS w kb k b c x y) : CmpS w.drew kb k b c x y := h
theorem CmpS.alloc {w : World} {kb : Nat} {k : Value} {b c : Nat} {x y : Tri3} (h : CmpS w kb k b c x y) {o : Obj} : CmpS (w.alloc o) kb k b c x y :=
  ⟨Lib.cell?_alloc_some _ h.1, Lib.cell?_alloc_some _ h.2.1, Lib.cell?_alloc_some _ h.2.2.1, Lib.cell?_alloc_some _ h.2.2.2.1, Lib.cell?_alloc_some _ h.2.2.2.2.1, Lib.cell?_alloc_some _ h.2.2.2.2.2.1, Lib.cell?_alloc_some _ h.2.2.2.2.2.2⟩

theorem cellDrew {w : World} {a : Addr} {x : Option Value} (h : w.cell? a = x) : w.drew.cell? a = x := h

/-- what slices.Compare reads -/
def CmpC (w : World) (p q : Nat) (x y : Tri3) : Prop := w.cell? ⟨p, 0, none⟩ = some (.int .i64 x.1) ∧ w.cell? ⟨p, 1, none⟩ = some (.int .i64 x.2.1) ∧ w.cell? ⟨p, 2, none⟩ = some (.int .i64 x.2.2)
      ∧ w.cell? ⟨q, 0, none⟩ = some (.int .i64 y.1) ∧ w.cell? ⟨q, 1, none⟩ = some (.int .i64 y.2.1) ∧ w.cell? ⟨q, 2, none⟩ = some (.int .i64 y.2.2)

/-- w' is w some draws on, with blocks laid behind -/
def Grew (w w' : World) : Prop := ∃ q os, w' = Sort.grow (w.drewN q) os
theorem Grew.refl (w : World) : Grew w w := ⟨0, #[], by rw [Sort.grow_empty]; rfl⟩
theorem Grew.alloc {a w : World} {o : Obj} (h : Grew a w) : Grew a (w.alloc o) := by
  obtain ⟨q, os, rfl⟩ := h
  exact ⟨q, os ++ #[o], by rw [Sort.alloc_eq_grow, Sort.grow_grow]⟩
theorem Grew.drewN {a w : World} {n : Nat} (h : Grew a w) : Grew a (w.drewN n) := by
  obtain ⟨q, os, rfl⟩ := h
  exact ⟨q + n, os, by rw [← World.drewN_drewN]; rfl⟩
theorem Grew.drew {a w : World} (h : Grew a w) : Grew a w.drew := h.drewN (n := 1)

set_option maxRecDepth 100000 in
set_option maxHeartbeats 8000000 in
theorem triCmp_walk (kb : Nat) (x y : Tri3) (w : World) (hk : w.cell? ⟨kb, 0, none⟩ = some (.func (.func 68) #[] #[])) :
    Calls Tryz.prog 138 #[vT x, vT y, .pointer (some ⟨kb, 0, none⟩)] w fun e w' => e = .returned (.int .i64 (cmpT x y)) ∧ Grew w w' := by
  have HX := Lib.hid (triKey_walk x)
  have HY := Lib.hid (triKey_walk y)
  have HC := Lib.hid (fun p q => compare_walk p q x y)
  have hkl := World.block_lt_of_cell? _ _ hk
  obtain ⟨x0, x1, x2⟩ := x
  obtain ⟨y0, y1, y2⟩ := y
  unfold vT at *
  dsimp only at HX HY HC
  generalize cmpT (x0, x1, x2) (y0, y1, y2) = z at *
  have hB : CmpS ((w.alloc (.cells #[.int .i64 x0, .int .i64 x1, .int .i64 x2] 45)).alloc (.cells #[.int .i64 y0, .int .i64 y1, .int .i64 y2] 45)) kb (.func (.func 68) #[] #[]) w.heap.size (w.heap.size + 1) (x0, x1, x2) (y0, y1, y2) := by
    refine ⟨Lib.cell?_alloc_some _ (Lib.cell?_alloc_some _ hk), ?_, ?_, ?_, ?_, ?_, ?_⟩ <;> simp
  go_enter Tryz.func138, Tryz.ntmps138
  have HB := Lib.hid hB
  clear hB hk
  go_upto_region 1 with fail
  go_cut [6, 7] from 8 to 13 (fun s6 s7 wx => ∃ p q : Nat, s6 = .pointer (some ⟨p, 0, none⟩) ∧ s7 = .pointer (some ⟨q, 0, none⟩) ∧ Hid (CmpC wx p q (x0, x1, x2) (y0, y1, y2)) ∧ Hid (Grew w wx))
  case first =>
    go_region_held3 (fun w' => w'.cell? ⟨kb, 0, none⟩ = some (.func (.func 68) #[] #[]) ∧ w'.cell? ⟨w.heap.size, 0, none⟩ = some (.int .i64 x0) ∧ w'.cell? ⟨w.heap.size, 1, none⟩ = some (.int .i64 x1) ∧ w'.cell? ⟨w.heap.size, 2, none⟩ = some (.int .i64 x2)
        ∧ w'.cell? ⟨w.heap.size + 1, 0, none⟩ = some (.int .i64 y0) ∧ w'.cell? ⟨w.heap.size + 1, 1, none⟩ = some (.int .i64 y1) ∧ w'.cell? ⟨w.heap.size + 1, 2, none⟩ = some (.int .i64 y2))
      (first | (change CmpS _ kb (.func (.func 68) #[] #[]) w.heap.size (w.heap.size + 1) (x0, x1, x2) (y0, y1, y2); repeat (first | with_reducible exact HB.out | with_reducible apply CmpS.drew | with_reducible apply CmpS.alloc)))
      (first
        | (go_at_call 68; (first | (with_reducible refine (HX.out _).mono ?_) | (with_reducible refine (HY.out _).mono ?_)); rintro r w1 ⟨rfl, rfl⟩))
    all_goals
      go_wp2_with fail
      go_meet
      refine ⟨_, _, rfl, rfl, ?_, ?_⟩
      · refine ⟨?_, ?_, ?_, ?_, ?_, ?_⟩ <;> (repeat (first | (refine (World.cell?_alloc_at _ _ _ _ ?_).trans ?_; (focus (simp; done)); rfl) | with_reducible apply Lib.cell?_alloc_some | with_reducible apply cellDrew))
      · unfold Hid
        repeat (first | with_reducible exact Grew.refl _ | with_reducible apply Grew.drewN | with_reducible apply Grew.drew | with_reducible apply Grew.alloc)
  case rest =>
    obtain ⟨p, q, rfl, rfl, HCC, HG⟩ := hcut
    clear HX HY HB
    obtain ⟨p0, p1, p2, q0, q1, q2⟩ := HCC.out
    have HCC2 := Lib.hid (HC.out p q wc.drew p0 p1 p2 q0 q1 q2)
    clear p0 p1 p2 q0 q1 q2
    go_wp2
    go_region_held3 (fun w' => w' = wc.drew) (first | rfl | assumption) (first | (go_at_call 110; refine HCC2.out.mono ?_; rintro r w1 ⟨rfl, rfl⟩))
    go_wp2
    go_ret
    exact ⟨rfl, HG.out.drew⟩

end Go.Proofs.YtdoaniccefdkaaaGreatDoor

/-
  DERIVED: THE SHELF's CONTRACTS AT THIS DUMP, IN PLAIN WORDS (tools/lay-plain.mjs out of 'YtdoaniccefdkaaaGreatDoorSh2.lean', which tools/lay-shelf.mjs wrote): THE SAME DECLARATIONS UNDER THE SAME NAMES: 'import', 'namespace', 'open', 'def', 'theorem' AND NOTHING ELSE: no command of the shelf's: FOR A HAND-IN. Each laying: the table of numbers ('.._ren') and one theorem, a field a fact of the dump's own or the kernel's comparison; each contract: ONE APPLICATION.
-/
namespace Go.Proofs
open Go.Shelf
def Tryz.sortTri_ren : Go.Shelf.Ren := ⟨fun | 6 => 137 | 15 => 167 | 14 => 178 | 28 => 216 | 29 => 217 | 20 => 239 | 21 => 240 | 22 => 241 | 23 => 242 | 24 => 243 | 25 => 244 | 26 => 245 | 27 => 246 | 46 => 283 | 47 => 270 | 48 => 271 | 49 => 284 | 50 => 285 | 57 => 323 | n => n, fun | 22 => 23 | 24 => 45 | 25 => 187 | 3 => 3 | 39 => 205 | 0 => 0 | 53 => 243 | 55 => 83 | 4 => 4 | 46 => 249 | 45 => 248 | 50 => 32 | 5 => 5 | 9 => 9 | 66 => 286 | 70 => 290 | 76 => 316 | 77 => 308 | n => n, fun | n => n⟩
theorem Tryz.sortTri : Go.Proofs.SlLaysF0.n6 Tryz.prog Tryz.sortTri_ren := {
  mixed := by kernel_rfl
  f6 := ⟨Tryz.f137.name, by decide, Tryz.func137.trans (congrArg some (by kernel_rfl))⟩
  f14 := ⟨Tryz.f178.name, by decide, Tryz.func178.trans (congrArg some (by kernel_rfl))⟩
  f15 := Tryz.func167.trans (congrArg some (by kernel_rfl))
  f20 := ⟨Tryz.f239.name, by decide, Tryz.func239.trans (congrArg some (by kernel_rfl))⟩
  f21 := ⟨Tryz.f240.name, by decide, Tryz.func240.trans (congrArg some (by kernel_rfl))⟩
  f22 := ⟨Tryz.f241.name, by decide, Tryz.func241.trans (congrArg some (by kernel_rfl))⟩
  f23 := ⟨Tryz.f242.name, by decide, Tryz.func242.trans (congrArg some (by kernel_rfl))⟩
  f24 := ⟨Tryz.f243.name, by decide, Tryz.func243.trans (congrArg some (by kernel_rfl))⟩
  f25 := ⟨Tryz.f244.name, by decide, Tryz.func244.trans (congrArg some (by kernel_rfl))⟩
  f26 := ⟨Tryz.f245.name, by decide, Tryz.func245.trans (congrArg some (by kernel_rfl))⟩
  f27 := ⟨Tryz.f246.name, by decide, Tryz.func246.trans (congrArg some (by kernel_rfl))⟩
  f28 := Tryz.func216.trans (congrArg some (by kernel_rfl))
  f29 := Tryz.func217.trans (congrArg some (by kernel_rfl))
  f46 := ⟨Tryz.f283.name, by decide, Tryz.func283.trans (congrArg some (by kernel_rfl))⟩
  f47 := Tryz.func270.trans (congrArg some (by kernel_rfl))
  f48 := Tryz.func271.trans (congrArg some (by kernel_rfl))
  f49 := ⟨Tryz.f284.name, by decide, Tryz.func284.trans (congrArg some (by kernel_rfl))⟩
  f50 := ⟨Tryz.f285.name, by decide, Tryz.func285.trans (congrArg some (by kernel_rfl))⟩
  f57 := ⟨Tryz.f323.name, by decide, Tryz.func323.trans (congrArg some (by kernel_rfl))⟩
  t0 := Tryz.underlying0
  a0 := Tryz.isAgg0
  z0 := Tryz.sizeOf0
  v0 := Tryz.zeroValue0
  t3 := Tryz.underlying3
  a3 := Tryz.isAgg3
  z3 := Tryz.sizeOf3
  v3 := Tryz.zeroValue3
  t4 := Tryz.underlying4
  a4 := Tryz.isAgg4
  z4 := Tryz.sizeOf4
  v4 := Tryz.zeroValue4
  t5 := Tryz.underlying5
  a5 := Tryz.isAgg5
  z5 := Tryz.sizeOf5
  v5 := Tryz.zeroValue5
  t9 := Tryz.underlying9
  a9 := Tryz.isAgg9
  z9 := Tryz.sizeOf9
  v9 := Tryz.zeroValue9
  t22 := Tryz.underlying23
  a22 := Tryz.isAgg23
  z22 := Tryz.sizeOf23
  v22 := Tryz.zeroValue23
  t25 := Tryz.underlying187
  a25 := Tryz.isAgg187
  z25 := Tryz.sizeOf187
  v25 := Tryz.zeroValue187
  t39 := Tryz.underlying205
  a39 := Tryz.isAgg205
  z39 := Tryz.sizeOf205
  v39 := Tryz.zeroValue205
  t45 := Tryz.underlying248
  a45 := Tryz.isAgg248
  z45 := Tryz.sizeOf248
  v45 := Tryz.zeroValue248
  t46 := Tryz.underlying249
  a46 := Tryz.isAgg249
  z46 := Tryz.sizeOf249
  v46 := Tryz.zeroValue249
  t50 := Tryz.underlying32
  a50 := Tryz.isAgg32
  z50 := Tryz.sizeOf32
  v50 := Tryz.zeroValue32
  t53 := Tryz.underlying243
  a53 := Tryz.isAgg243
  z53 := Tryz.sizeOf243
  v53 := Tryz.zeroValue243
  t55 := Tryz.underlying83
  a55 := Tryz.isAgg83
  z55 := Tryz.sizeOf83
  v55 := Tryz.zeroValue83
  t66 := Tryz.underlying286
  a66 := Tryz.isAgg286
  z66 := Tryz.sizeOf286
  v66 := Tryz.zeroValue286
  t70 := Tryz.underlying290
  a70 := Tryz.isAgg290
  z70 := Tryz.sizeOf290
  v70 := Tryz.zeroValue290
  t76 := Tryz.underlying316
  a76 := Tryz.isAgg316
  z76 := Tryz.sizeOf316
  v76 := Tryz.zeroValue316
  t77 := Tryz.underlying308
  a77 := Tryz.isAgg308
  z77 := Tryz.sizeOf308
  v77 := Tryz.zeroValue308 }
def Tryz.sortPair_ren : Go.Shelf.Ren := ⟨fun | 6 => 203 | 15 => 167 | 14 => 267 | 28 => 216 | 29 => 217 | 20 => 312 | 21 => 313 | 22 => 314 | 23 => 315 | 24 => 316 | 25 => 317 | 26 => 318 | 27 => 319 | 46 => 336 | 47 => 270 | 48 => 271 | 49 => 337 | 50 => 338 | 57 => 341 | n => n, fun | 22 => 78 | 24 => 62 | 25 => 159 | 3 => 3 | 39 => 205 | 0 => 0 | 53 => 243 | 55 => 83 | 4 => 4 | 46 => 249 | 45 => 248 | 50 => 32 | 5 => 5 | 9 => 9 | 66 => 286 | 70 => 290 | 76 => 316 | 77 => 308 | n => n, fun | n => n⟩
theorem Tryz.sortPair : Go.Proofs.SlLaysF0.n6 Tryz.prog Tryz.sortPair_ren := {
  mixed := by kernel_rfl
  f6 := ⟨Tryz.f203.name, by decide, Tryz.func203.trans (congrArg some (by kernel_rfl))⟩
  f14 := ⟨Tryz.f267.name, by decide, Tryz.func267.trans (congrArg some (by kernel_rfl))⟩
  f15 := Tryz.func167.trans (congrArg some (by kernel_rfl))
  f20 := ⟨Tryz.f312.name, by decide, Tryz.func312.trans (congrArg some (by kernel_rfl))⟩
  f21 := ⟨Tryz.f313.name, by decide, Tryz.func313.trans (congrArg some (by kernel_rfl))⟩
  f22 := ⟨Tryz.f314.name, by decide, Tryz.func314.trans (congrArg some (by kernel_rfl))⟩
  f23 := ⟨Tryz.f315.name, by decide, Tryz.func315.trans (congrArg some (by kernel_rfl))⟩
  f24 := ⟨Tryz.f316.name, by decide, Tryz.func316.trans (congrArg some (by kernel_rfl))⟩
  f25 := ⟨Tryz.f317.name, by decide, Tryz.func317.trans (congrArg some (by kernel_rfl))⟩
  f26 := ⟨Tryz.f318.name, by decide, Tryz.func318.trans (congrArg some (by kernel_rfl))⟩
  f27 := ⟨Tryz.f319.name, by decide, Tryz.func319.trans (congrArg some (by kernel_rfl))⟩
  f28 := Tryz.func216.trans (congrArg some (by kernel_rfl))
  f29 := Tryz.func217.trans (congrArg some (by kernel_rfl))
  f46 := ⟨Tryz.f336.name, by decide, Tryz.func336.trans (congrArg some (by kernel_rfl))⟩
  f47 := Tryz.func270.trans (congrArg some (by kernel_rfl))
  f48 := Tryz.func271.trans (congrArg some (by kernel_rfl))
  f49 := ⟨Tryz.f337.name, by decide, Tryz.func337.trans (congrArg some (by kernel_rfl))⟩
  f50 := ⟨Tryz.f338.name, by decide, Tryz.func338.trans (congrArg some (by kernel_rfl))⟩
  f57 := ⟨Tryz.f341.name, by decide, Tryz.func341.trans (congrArg some (by kernel_rfl))⟩
  t0 := Tryz.underlying0
  a0 := Tryz.isAgg0
  z0 := Tryz.sizeOf0
  v0 := Tryz.zeroValue0
  t3 := Tryz.underlying3
  a3 := Tryz.isAgg3
  z3 := Tryz.sizeOf3
  v3 := Tryz.zeroValue3
  t4 := Tryz.underlying4
  a4 := Tryz.isAgg4
  z4 := Tryz.sizeOf4
  v4 := Tryz.zeroValue4
  t5 := Tryz.underlying5
  a5 := Tryz.isAgg5
  z5 := Tryz.sizeOf5
  v5 := Tryz.zeroValue5
  t9 := Tryz.underlying9
  a9 := Tryz.isAgg9
  z9 := Tryz.sizeOf9
  v9 := Tryz.zeroValue9
  t22 := Tryz.underlying78
  a22 := Tryz.isAgg78
  z22 := Tryz.sizeOf78
  v22 := Tryz.zeroValue78
  t25 := Tryz.underlying159
  a25 := Tryz.isAgg159
  z25 := Tryz.sizeOf159
  v25 := Tryz.zeroValue159
  t39 := Tryz.underlying205
  a39 := Tryz.isAgg205
  z39 := Tryz.sizeOf205
  v39 := Tryz.zeroValue205
  t45 := Tryz.underlying248
  a45 := Tryz.isAgg248
  z45 := Tryz.sizeOf248
  v45 := Tryz.zeroValue248
  t46 := Tryz.underlying249
  a46 := Tryz.isAgg249
  z46 := Tryz.sizeOf249
  v46 := Tryz.zeroValue249
  t50 := Tryz.underlying32
  a50 := Tryz.isAgg32
  z50 := Tryz.sizeOf32
  v50 := Tryz.zeroValue32
  t53 := Tryz.underlying243
  a53 := Tryz.isAgg243
  z53 := Tryz.sizeOf243
  v53 := Tryz.zeroValue243
  t55 := Tryz.underlying83
  a55 := Tryz.isAgg83
  z55 := Tryz.sizeOf83
  v55 := Tryz.zeroValue83
  t66 := Tryz.underlying286
  a66 := Tryz.isAgg286
  z66 := Tryz.sizeOf286
  v66 := Tryz.zeroValue286
  t70 := Tryz.underlying290
  a70 := Tryz.isAgg290
  z70 := Tryz.sizeOf290
  v70 := Tryz.zeroValue290
  t76 := Tryz.underlying316
  a76 := Tryz.isAgg316
  z76 := Tryz.sizeOf316
  v76 := Tryz.zeroValue316
  t77 := Tryz.underlying308
  a77 := Tryz.isAgg308
  z77 := Tryz.sizeOf308
  v77 := Tryz.zeroValue308 }
def Tryz.sortSeg_ren : Go.Shelf.Ren := ⟨fun | 6 => 182 | 15 => 167 | 14 => 250 | 28 => 216 | 29 => 217 | 20 => 288 | 21 => 289 | 22 => 290 | 23 => 291 | 24 => 292 | 25 => 293 | 26 => 294 | 27 => 295 | 46 => 324 | 47 => 270 | 48 => 271 | 49 => 325 | 50 => 326 | 57 => 339 | n => n, fun | 22 => 24 | 24 => 141 | 25 => 224 | 3 => 3 | 39 => 205 | 0 => 0 | 53 => 243 | 55 => 83 | 4 => 4 | 46 => 249 | 45 => 248 | 50 => 32 | 5 => 5 | 9 => 9 | 66 => 286 | 70 => 290 | 76 => 316 | 77 => 308 | n => n, fun | n => n⟩
theorem Tryz.sortSeg : Go.Proofs.SlLaysF0.n6 Tryz.prog Tryz.sortSeg_ren := {
  mixed := by kernel_rfl
  f6 := ⟨Tryz.f182.name, by decide, Tryz.func182.trans (congrArg some (by kernel_rfl))⟩
  f14 := ⟨Tryz.f250.name, by decide, Tryz.func250.trans (congrArg some (by kernel_rfl))⟩
  f15 := Tryz.func167.trans (congrArg some (by kernel_rfl))
  f20 := ⟨Tryz.f288.name, by decide, Tryz.func288.trans (congrArg some (by kernel_rfl))⟩
  f21 := ⟨Tryz.f289.name, by decide, Tryz.func289.trans (congrArg some (by kernel_rfl))⟩
  f22 := ⟨Tryz.f290.name, by decide, Tryz.func290.trans (congrArg some (by kernel_rfl))⟩
  f23 := ⟨Tryz.f291.name, by decide, Tryz.func291.trans (congrArg some (by kernel_rfl))⟩
  f24 := ⟨Tryz.f292.name, by decide, Tryz.func292.trans (congrArg some (by kernel_rfl))⟩
  f25 := ⟨Tryz.f293.name, by decide, Tryz.func293.trans (congrArg some (by kernel_rfl))⟩
  f26 := ⟨Tryz.f294.name, by decide, Tryz.func294.trans (congrArg some (by kernel_rfl))⟩
  f27 := ⟨Tryz.f295.name, by decide, Tryz.func295.trans (congrArg some (by kernel_rfl))⟩
  f28 := Tryz.func216.trans (congrArg some (by kernel_rfl))
  f29 := Tryz.func217.trans (congrArg some (by kernel_rfl))
  f46 := ⟨Tryz.f324.name, by decide, Tryz.func324.trans (congrArg some (by kernel_rfl))⟩
  f47 := Tryz.func270.trans (congrArg some (by kernel_rfl))
  f48 := Tryz.func271.trans (congrArg some (by kernel_rfl))
  f49 := ⟨Tryz.f325.name, by decide, Tryz.func325.trans (congrArg some (by kernel_rfl))⟩
  f50 := ⟨Tryz.f326.name, by decide, Tryz.func326.trans (congrArg some (by kernel_rfl))⟩
  f57 := ⟨Tryz.f339.name, by decide, Tryz.func339.trans (congrArg some (by kernel_rfl))⟩
  t0 := Tryz.underlying0
  a0 := Tryz.isAgg0
  z0 := Tryz.sizeOf0
  v0 := Tryz.zeroValue0
  t3 := Tryz.underlying3
  a3 := Tryz.isAgg3
  z3 := Tryz.sizeOf3
  v3 := Tryz.zeroValue3
  t4 := Tryz.underlying4
  a4 := Tryz.isAgg4
  z4 := Tryz.sizeOf4
  v4 := Tryz.zeroValue4
  t5 := Tryz.underlying5
  a5 := Tryz.isAgg5
  z5 := Tryz.sizeOf5
  v5 := Tryz.zeroValue5
  t9 := Tryz.underlying9
  a9 := Tryz.isAgg9
  z9 := Tryz.sizeOf9
  v9 := Tryz.zeroValue9
  t22 := Tryz.underlying24
  a22 := Tryz.isAgg24
  z22 := Tryz.sizeOf24
  v22 := Tryz.zeroValue24
  t25 := Tryz.underlying224
  a25 := Tryz.isAgg224
  z25 := Tryz.sizeOf224
  v25 := Tryz.zeroValue224
  t39 := Tryz.underlying205
  a39 := Tryz.isAgg205
  z39 := Tryz.sizeOf205
  v39 := Tryz.zeroValue205
  t45 := Tryz.underlying248
  a45 := Tryz.isAgg248
  z45 := Tryz.sizeOf248
  v45 := Tryz.zeroValue248
  t46 := Tryz.underlying249
  a46 := Tryz.isAgg249
  z46 := Tryz.sizeOf249
  v46 := Tryz.zeroValue249
  t50 := Tryz.underlying32
  a50 := Tryz.isAgg32
  z50 := Tryz.sizeOf32
  v50 := Tryz.zeroValue32
  t53 := Tryz.underlying243
  a53 := Tryz.isAgg243
  z53 := Tryz.sizeOf243
  v53 := Tryz.zeroValue243
  t55 := Tryz.underlying83
  a55 := Tryz.isAgg83
  z55 := Tryz.sizeOf83
  v55 := Tryz.zeroValue83
  t66 := Tryz.underlying286
  a66 := Tryz.isAgg286
  z66 := Tryz.sizeOf286
  v66 := Tryz.zeroValue286
  t70 := Tryz.underlying290
  a70 := Tryz.isAgg290
  z70 := Tryz.sizeOf290
  v70 := Tryz.zeroValue290
  t76 := Tryz.underlying316
  a76 := Tryz.isAgg316
  z76 := Tryz.sizeOf316
  v76 := Tryz.zeroValue316
  t77 := Tryz.underlying308
  a77 := Tryz.isAgg308
  z77 := Tryz.sizeOf308
  v77 := Tryz.zeroValue308 }
end Go.Proofs

/- mesh.sorted at triangles. -/
namespace Go.Proofs.YtdoaniccefdkaaaGreatDoor
open Go.RowKit Go.Maps Go.WideMaps Go.Sort

def encT (x : Tri3) : List Value := [.int .i64 x.1, .int .i64 x.2.1, .int .i64 x.2.2]
theorem encT_len (x : Tri3) : (encT x).length = 3 := rfl
theorem encT_one (x : Tri3) : ∀ v ∈ encT x, v.oneCell' = true := by
  intro v hv
  simp [encT] at hv
  rcases hv with rfl | rfl | rfl <;> rfl

theorem compareInt_lt {x y : Int} : Lib.compareInt x y < 0 ↔ x < y := by
  unfold Lib.compareInt
  by_cases h1 : x < y
  · simp [h1]
  · by_cases h2 : x > y
    · simp [h1, h2]
    · simp [h1, h2]
theorem cmpT_lt (x y : Tri3) : cmpT x y < 0 ↔ ltT x y := by
  unfold cmpT ltT
  split
  · rw [compareInt_lt]; omega
  · split
    · rw [compareInt_lt]; omega
    · rw [compareInt_lt]; omega
theorem ltOf_cmpT (x y : Tri3) : ltOf cmpT x y = true ↔ ltT x y := by
  unfold ltOf
  rw [decide_eq_true_eq]
  exact cmpT_lt x y
theorem ltOf_cmpT' (x y : Tri3) : ltOf cmpT x y = false ↔ ¬ltT x y := by
  rw [← ltOf_cmpT]; simp
theorem swoT : SWO (ltOf cmpT) where
  irrefl x := (ltOf_cmpT' x x).2 (ltT_irr x)
  trans x y z h1 h2 := (ltOf_cmpT x z).2 (ltT_trans x y z ((ltOf_cmpT x y).1 h1) ((ltOf_cmpT y z).1 h2))
  ntrans x y z h1 h2 := by
    rw [ltOf_cmpT'] at *
    unfold ltT at *
    omega

theorem enters_triCmp : ∀ args w, (callFunc 138 args).run Tryz.prog w = .ok (.enter 138 args) w := enters_of Tryz.func138 (by kernel_rfl) rfl

theorem sortFuncTri {base : Nat} (l : List Tri3) (v : Value) (kb : Nat) (w : World) (h : w.ownsRow base 45 3 v l.length (cellsK encT l)) (hk : w.cell? ⟨kb, 0, none⟩ = some (.func (.func 68) #[] #[])) (hne : v.ownBlock ≠ some kb) (hl : l.length ≤ 4611686018427387900) :
    Calls Tryz.prog 137 #[v, .func (.func 138) #[] #[.pointer (some ⟨kb, 0, none⟩)]] w fun r w' =>
      r = .returned (.tuple #[]) ∧ ∃ l' : List Tri3, l'.Perm l ∧ l'.Pairwise (fun x y => ¬ltT y x) ∧ w'.ownsRow base 45 3 v l.length (cellsK encT l') ∧ w.grownBy w' v.ownBlock := by
  rcases h.2 with ⟨rfl, h0⟩ | ⟨g, cap, cur, rfl, hb, hh, hn, hm, hs, ht⟩
  · have hnil : l = [] := List.length_eq_zero_iff.1 h0
    subst hnil
    have hc := AnyF.slices_SortFunc_none (P := Tryz.prog) Tryz.sortTri none 0 (.func (.func 138) #[] #[.pointer (some ⟨kb, 0, none⟩)]) w
    change Calls Tryz.prog 137 _ _ _ at hc
    refine hc.mono ?_
    rintro r w' ⟨rfl, rfl⟩
    exact ⟨rfl, [], List.Perm.refl _, List.Pairwise.nil, h, ⟨rfl, rfl, rfl, Nat.le_refl _, fun _ _ _ => rfl⟩⟩
  · have hkb : kb ≠ g := fun e => hne (by rw [e]; rfl)
    have hkl := World.block_lt_of_cell? _ _ hk
    have hgl : g < w.heap.size := (Array.getElem?_eq_some_iff.1 hh).1
    have hcmp : CmpLays Tryz.prog 138 #[.pointer (some ⟨kb, 0, none⟩)] encT 3 cmpT g 0 l.toArray.size w := by
      intro m os dk _ x y
      refine (triCmp_walk kb x y _ ?_).mono ?_
      · unfold sortWorldK
        rw [cell?_grow _ _ _ (by show kb < (putRowK _ _ _ _ _ _).heap.size; rw [size_putRowK]; exact hkl), cell?_putRowK_other _ _ _ _ _ _ _ hkb]
        exact hk
      · rintro r w' ⟨he, q, os', hw⟩
        exact ⟨he, q, os', hw⟩
    have hcon := AnyQ.slices_SortFunc (P := Tryz.prog) Tryz.sortTri 3 Tryz.isAgg45 Tryz.sizeOf45 encT encT_len encT_one cmpT swoT 138 #[.pointer (some ⟨kb, 0, none⟩)] g 0 cap l.toArray w enters_triCmp hcmp (owns_holdsK encT_len h) hgl (by rw [List.size_toArray]; omega)
    change Calls Tryz.prog 137 _ _ _ at hcon
    rw [List.size_toArray] at hcon
    refine hcon.mono ?_
    rintro r w' ⟨rfl, d, n, os, hp, hsd, rfl⟩
    have hds : d.size = l.length := by have := hp.1; simpa using this
    obtain ⟨o1, o2⟩ := sort_back encT_len h d n os hds
    refine ⟨rfl, d.toList, permIn_list hp, ?_, o1, o2⟩
    refine List.Pairwise.imp ?_ (sortedIn_list hds hsd)
    intro x y hxy
    exact fun e => hxy ((ltOf_cmpT y x).2 e)

set_option maxRecDepth 100000 in
set_option maxHeartbeats 1000000 in
theorem sortedTri_walk {base : Nat} (l : List Tri3) (v : Value) (w : World) (h : w.ownsRow base 45 3 v l.length (cellsK encT l)) (hl : l.length ≤ 4611686018427387900) :
    Calls Tryz.prog 67 #[v, .func (.func 68) #[] #[]] w fun r w' =>
      r = .returned v ∧ ∃ l' : List Tri3, l'.Perm l ∧ l'.Pairwise (fun x y => ¬ltT y x) ∧ w'.ownsRow base 45 3 v l.length (cellsK encT l') ∧ w.grownBy w' v.ownBlock := by
  have hc := sortFuncTri l v w.heap.size (w.alloc (.cells #[.func (.func 68) #[] #[]] 119)) (h.alloc _) (by rw [World.cell?_alloc_at _ _ _ _ rfl]; rfl) (fun e => by have := (h.lt _ e).2; omega) hl
  have HC := Lib.hid hc
  have HS : Hid (∀ w', (w.alloc (.cells #[.func (.func 68) #[] #[]] 119)).grownBy w' v.ownBlock → w.grownBy w' v.ownBlock) := fun w' hg =>
    ⟨hg.os, hg.tape, hg.output, Nat.le_trans (by simp) hg.size, fun i hi hne => (hg.block i (by simp; omega) hne).trans (((Below.refl _ w).alloc (Nat.le_refl _) _).block i hi)⟩
  clear hc h
  go_enter Tryz.func67, Tryz.ntmps67
  go_wp2_with (go_at_call 137; refine HC.out.mono ?_; rintro r w1 ⟨rfl, l', h1, h2, h3, h4⟩)
  go_ret
  exact ⟨rfl, l', h1, h2, h3, HS.out _ h4⟩

end Go.Proofs.YtdoaniccefdkaaaGreatDoor
