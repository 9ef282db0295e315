/- Part of the proof. No conditions. -/
import Derived.Test.YtdoaniccefdkaaaGreatDoorZ8
import Derived.Test.YtdoaniccefdkaaaGreatDoorZ9
import Derived.Deep.AppendLies

set_option linter.all false
/- (*Mesh).Make: a triangle is made, or an edge is taken. -/
namespace Go.Proofs.YtdoaniccefdkaaaGreatDoor
open Go.RowKit Go.Maps Go.WideMaps

/-- a triangle more -/
def makeM (M : MeshM) (a b c : Int) : MeshM := { addE (addE (addE M a b c) b c a) c a b with cnt := M.cnt + 1 }

theorem idx3_0 (x0 x1 x2 x3 x4 x5 : Value) (w : World) : (Instr.index 136 (.agg #[x0, x1, x2, x3, x4, x5]) (.int .i64 0)).run Tryz.prog w = .ok (.agg #[x0, x1]) w := by kernel_rfl
theorem idx3_1 (x0 x1 x2 x3 x4 x5 : Value) (w : World) : (Instr.index 136 (.agg #[x0, x1, x2, x3, x4, x5]) (.int .i64 1)).run Tryz.prog w = .ok (.agg #[x2, x3]) w := by kernel_rfl
theorem idx3_2 (x0 x1 x2 x3 x4 x5 : Value) (w : World) : (Instr.index 136 (.agg #[x0, x1, x2, x3, x4, x5]) (.int .i64 2)).run Tryz.prog w = .ok (.agg #[x4, x5]) w := by kernel_rfl

theorem infoInt : (Tryz.prog.info? 3).map (fun i => (i.zero, i.size, i.bytes)) = some (some (.int .i64 0), 1, 8) := by kernel_rfl

def takenB (M : MeshM) (a b c : Int) : Bool := (M.ap a b).isSome || (M.ap b c).isSome || (M.ap c a).isSome

/-- the three edges, by number -/
def tri3 (a b c : Nat) (k : Nat) : Nat := if k = 0 then a else if k = 1 then b else if k = 2 then c else if k = 3 then a else b
/-- the mesh behind k edges -/
def Mk (M : MeshM) (a b c : Nat) : Nat → MeshM
  | 0 => M
  | k + 1 => addE (Mk M a b c k) (tri3 a b c k) (tri3 a b c (k + 1)) (tri3 a b c (k + 2))
theorem Mk_P (M : MeshM) (a b c k : Nat) : (Mk M a b c k).P = M.P := by induction k with | zero => rfl | succ k ih => exact ih
theorem Mk_cnt (M : MeshM) (a b c k : Nat) : (Mk M a b c k).cnt = M.cnt := by induction k with | zero => rfl | succ k ih => exact ih

def freeTo (M : MeshM) (a b c : Nat) (k : Nat) : Prop := ∀ j, j < k → j < 3 → M.ap (tri3 a b c j) (tri3 a b c (j + 1)) = none

theorem taken_of {M : MeshM} {a b c k : Nat} (hk : k < 3) {v : Int} (h : M.ap (tri3 a b c k) (tri3 a b c (k + 1)) = some v) : takenB M a b c = true := by
  have : k = 0 ∨ k = 1 ∨ k = 2 := by omega
  unfold takenB
  rcases this with rfl | rfl | rfl <;> simp [tri3] at h <;> simp [h]

theorem free_of {M : MeshM} {a b c : Nat} (h : freeTo M a b c 3) : takenB M a b c = false := by
  have h0 := h 0 (by omega) (by omega)
  have h1 := h 1 (by omega) (by omega)
  have h2 := h 2 (by omega) (by omega)
  simp [tri3] at h0 h1 h2
  unfold takenB
  simp [h0, h1, h2]

theorem nat64 {a : Nat} {L : Nat} (h : a < L) (hl : L ≤ 1048576) : i64ok (a : Int) := by unfold i64ok; omega

set_option maxRecDepth 100000 in
set_option maxHeartbeats 2000000 in
theorem make_rest {w : World} {mb n : Nat} {M : MeshM} {F : Nat → Prop} (h : MeshAt w mb n M F) (h64 : ∀ p, p ∈ M.P → pt64 p) (hl : M.P.length ≤ 1048576) (hn : n ≤ 1000000000) {a b c : Nat} (ha : a < M.P.length) (hb : b < M.P.length) (hc : c < M.P.length) (hs : 0 < signM M a b c) :
    Calls Tryz.prog 28 #[.pointer (some ⟨mb, 0, none⟩), .int .i64 a, .int .i64 b, .int .i64 c] w fun r w' =>
      (takenB M a b c = true ∧ r = .returned (.int .i64 14) ∧ Below w.heap.size w w') ∨
      (takenB M a b c = false ∧ r = .returned (.int .i64 0) ∧ MeshAt w' mb (n + 3) (makeM M a b c) (fun i => F i ∨ (w.heap.size ≤ i ∧ i < w'.heap.size)) ∧ Stay F w w') := by
  have HA := Lib.hid (has_walk h a)
  have HB := Lib.hid (has_walk h b)
  have HC := Lib.hid (has_walk h c)
  rw [hasM_nat ha] at HA
  rw [hasM_nat hb] at HB
  rw [hasM_nat hc] at HC
  obtain ⟨ba, bs, bf, pv, sv, h⟩ := h
  obtain ⟨ad, cap, rfl, hpc⟩ := h.ptcells
  obtain ⟨bp, off, rfl, _, hcells⟩ := hpc (by omega)
  clear hpc
  have c0 := h.c0
  obtain ⟨ax, ay⟩ := hcells a ha
  obtain ⟨bx, bY⟩ := hcells b hb
  obtain ⟨cx, cy⟩ := hcells c hc
  have HS := Lib.hid (signM_walk M h64 ha hb hc)
  have HSS := Lib.hid hs
  have HAR := Lib.hid (around_walk a b c)
  have HP := Lib.hid h
  clear h hcells h64 hs
  generalize M.P.getD a (0, 0) = pa at *
  generalize M.P.getD b (0, 0) = pb at *
  generalize M.P.getD c (0, 0) = pc at *
  generalize signM M a b c = s at *
  go_enter Tryz.func28, Tryz.ntmps28
  go_wp2_with (go_at_call 89; (first | (with_reducible refine HA.out.mono ?_) | (with_reducible refine HB.out.mono ?_) | (with_reducible refine HC.out.mono ?_)); rintro r w1 ⟨rfl, rfl⟩)
  go_still_tail 21, (by kernel_rfl)
  clear HA HB HC c0 ax ay bx bY cx cy
  go_wp2_with (first
    | (go_at_call 90; refine (HS.out _).mono ?_; rintro r w2 ⟨rfl, hb2⟩)
    | (go_at_call 91; refine (HAR.out _).mono ?_; rintro r w3 ⟨rfl, hb3⟩))
  all_goals first | (exfalso; have := HSS.out; omega) | skip
  have hB3 : Below w1.heap.size w1 w3 := (Below.refl _ w1).drew.trans (hb2.trans (hb3.mono hb2.size))
  have HBA := Lib.hid hB3
  have HE0 := Lib.hid (nat64 ha hl)
  have HE1 := Lib.hid (nat64 hb hl)
  have HE2 := Lib.hid (nat64 hc hl)
  clear HAR HS HSS hb2 hb3 hB3
  have hi0 := idx3_0 (.int .i64 a) (.int .i64 b) (.int .i64 b) (.int .i64 c) (.int .i64 c) (.int .i64 a)
  have hi1 := idx3_1 (.int .i64 a) (.int .i64 b) (.int .i64 b) (.int .i64 c) (.int .i64 c) (.int .i64 a)
  have hi2 := idx3_2 (.int .i64 a) (.int .i64 b) (.int .i64 b) (.int .i64 c) (.int .i64 c) (.int .i64 a)
  go_loopw [65] (fun i wr => ∃ k : Nat, k ≤ 3 ∧ i = .int .i64 k ∧ Hid (Below w1.heap.size w1 wr) ∧ Hid (freeTo M a b c k) ∧ Hid (wr.heap[w3.heap.size]? = some (.cells #[.int .i64 a, .int .i64 b, .int .i64 b, .int .i64 c, .int .i64 c, .int .i64 a] 136 (0, 0)))) (fun i _ => 3 - (intOf i).toNat)
  case atStart =>
    exact ⟨0, by omega, rfl, HBA.out.alloc HBA.out.size _, fun j hj => by omega, heap_alloc_new _ _⟩
  case round =>
    obtain ⟨k, hk, rfl, HBR, HFR, HLB⟩ := hrel
    by_cases hlt : k < 3
    · have hk3 : k = 0 ∨ k = 1 ∨ k = 2 := by omega
      obtain ⟨W, hW⟩ : ∃ W, W = wr.alloc (.cells #[.int .i64 (tri3 a b c k), .int .i64 (tri3 a b c (k + 1))] 117) := ⟨_, rfl⟩
      have HBW : Hid (Below w1.heap.size w1 W) := by rw [hW]; exact HBR.out.alloc HBR.out.size _
      have HLW : Hid (W.heap[w3.heap.size]? = some (.cells #[.int .i64 a, .int .i64 b, .int .i64 b, .int .i64 c, .int .i64 c, .int .i64 a] 136 (0, 0))) := by
        rw [hW]; exact (((Below.refl wr.heap.size wr).alloc (Nat.le_refl _) _).block _ (Array.getElem?_eq_some_iff.1 HLB.out).1).trans HLB.out
      have e0 : W.cell? ⟨wr.heap.size, 0, none⟩ = some (.int .i64 (tri3 a b c k)) := by rw [hW, World.cell?_alloc_at _ _ _ _ rfl]; rfl
      have e1 : W.cell? ⟨wr.heap.size, 1, none⟩ = some (.int .i64 (tri3 a b c (k + 1))) := by rw [hW, World.cell?_alloc_at _ _ _ _ rfl]; rfl
      have c1 := (HP.out.below HBW.out).c1
      have hL := lookE (w := W.drew) (HP.out.below HBW.out).apm (a := tri3 a b c k) (b := tri3 a b c (k + 1)) (by rcases hk3 with rfl | rfl | rfl <;> first | exact HE0.out | exact HE1.out | exact HE2.out) (by rcases hk3 with rfl | rfl | rfl <;> first | exact HE0.out | exact HE1.out | exact HE2.out)
      have HW := Lib.hid hW
      clear hW
      cases hap : M.ap (tri3 a b c k) (tri3 a b c (k + 1)) with
      | some v =>
        have HT := Lib.hid (taken_of hlt hap)
        rw [hap] at hL
        rcases hk3 with rfl | rfl | rfl
        all_goals
          clear hap
          simp [tri3] at c1 hL e0 e1
          go_wp2
          have hW' := HW.out
          simp [tri3] at hW'
          rw [← hW']
          clear hW'
          go_region_held3 (fun w' => w' = W.drew) (first | rfl | assumption) (fail)
          go_wp2
          go_ret
          exact .inl ⟨HT.out, rfl, HBW.out.drew⟩
      | none =>
        have HT : Hid (freeTo M a b c (k + 1)) := fun j hj hj3 => by
          by_cases e : j = k
          · rw [e]; exact hap
          · exact HFR.out j (by omega) hj3
        rw [hap] at hL
        rcases hk3 with rfl | rfl | rfl
        all_goals
          clear hap
          simp [tri3] at c1 hL e0 e1
          go_wp2
          have hW' := HW.out
          simp [tri3] at hW'
          rw [← hW']
          clear hW'
          go_region_held3 (fun w' => w' = W.drew) (first | rfl | assumption) (fail)
          go_wp2
          go_roundw
          case rel => first | exact ⟨1, by omega, rfl, HBW.out.drew, HT, HLW⟩ | exact ⟨2, by omega, rfl, HBW.out.drew, HT, HLW⟩ | exact ⟨3, by omega, rfl, HBW.out.drew, HT, HLW⟩
          case measure => simp [intOf]
    · have e : k = 3 := by omega
      subst e
      have HTF := Lib.hid (free_of HFR.out)
      have hl0 : wr.cell? ⟨w3.heap.size, 0, none⟩ = some (.int .i64 a) := by simp [World.cell?, HLB.out]
      have hl1 : wr.cell? ⟨w3.heap.size, 1, none⟩ = some (.int .i64 b) := by simp [World.cell?, HLB.out]
      have hl2 : wr.cell? ⟨w3.heap.size, 2, none⟩ = some (.int .i64 b) := by simp [World.cell?, HLB.out]
      have hl3 : wr.cell? ⟨w3.heap.size, 3, none⟩ = some (.int .i64 c) := by simp [World.cell?, HLB.out]
      have hl4 : wr.cell? ⟨w3.heap.size, 4, none⟩ = some (.int .i64 c) := by simp [World.cell?, HLB.out]
      have hl5 : wr.cell? ⟨w3.heap.size, 5, none⟩ = some (.int .i64 a) := by simp [World.cell?, HLB.out]
      go_wp2
      clear hl0 hl1 hl2 hl3 hl4 hl5
      have HLX := HLB
      have HMP := Lib.hid (((HP.out.below HBR.out).wider (G := fun i => F i ∨ (w3.heap.size < i ∧ i < wr.heap.size)) (fun g hg => .inl hg) (fun g hg => hg.elim (fun e => Nat.lt_of_lt_of_le (HP.out.flt g e) HBR.out.size) (fun e => e.2))))
      have HST := Lib.hid (Stay.of_below (G := F) HBR.out)
      have s13 := Lib.hid HBA.out.size
      clear HFR HLB hk hlt
      go_loopw [80] (fun i wq => ∃ (k : Nat) (sv' : Int → Option Value), k ≤ 3 ∧ i = .int .i64 k ∧ Hid (MeshParts wq mb ba bs bf (n + k) (Value.slice (some ⟨bp, off, none⟩) M.P.length cap) sv' (Mk M a b c k) (fun i => F i ∨ (w3.heap.size < i ∧ i < wq.heap.size))) ∧ Hid (Stay F w1 wq) ∧ Hid (wq.heap[w3.heap.size]? = some (.cells #[.int .i64 a, .int .i64 b, .int .i64 b, .int .i64 c, .int .i64 c, .int .i64 a] 136 (0, 0)))) (fun i _ => 3 - (intOf i).toNat)
      case atStart => exact ⟨0, sv, by omega, rfl, HMP.out, HST.out, HLX.out⟩
      case round =>
        obtain ⟨k, sv', hk, rfl, HQ, HS2, HLQ⟩ := hrel
        by_cases hlt : k < 3
        · have hk3 : k = 0 ∨ k = 1 ∨ k = 2 := by omega
          obtain ⟨i0, hi, hz0, hz1, hz2⟩ := info_parts infoInt
          obtain ⟨W, hW⟩ : ∃ W, W = wr.alloc (.cells #[.int .i64 (tri3 a b c k), .int .i64 (tri3 a b c (k + 1))] 117) := ⟨_, rfl⟩
          have HBW : Hid (Below wr.heap.size wr W) := by rw [hW]; exact (Below.refl _ _).alloc (Nat.le_refl _) _
          have HLW : Hid (W.heap[w3.heap.size]? = some (.cells #[.int .i64 a, .int .i64 b, .int .i64 b, .int .i64 c, .int .i64 c, .int .i64 a] 136 (0, 0))) := (HBW.out.block _ (Array.getElem?_eq_some_iff.1 HLQ.out).1).trans HLQ.out
          have hl0 : W.cell? ⟨w3.heap.size, 0, none⟩ = some (.int .i64 a) := by simp [World.cell?, HLW.out]
          have hl1 : W.cell? ⟨w3.heap.size, 1, none⟩ = some (.int .i64 b) := by simp [World.cell?, HLW.out]
          have hl2 : W.cell? ⟨w3.heap.size, 2, none⟩ = some (.int .i64 b) := by simp [World.cell?, HLW.out]
          have hl3 : W.cell? ⟨w3.heap.size, 3, none⟩ = some (.int .i64 c) := by simp [World.cell?, HLW.out]
          have hl4 : W.cell? ⟨w3.heap.size, 4, none⟩ = some (.int .i64 c) := by simp [World.cell?, HLW.out]
          have hl5 : W.cell? ⟨w3.heap.size, 5, none⟩ = some (.int .i64 a) := by simp [World.cell?, HLW.out]
          have e0 : W.cell? ⟨wr.heap.size, 0, none⟩ = some (.int .i64 (tri3 a b c k)) := by rw [hW, World.cell?_alloc_at _ _ _ _ rfl]; rfl
          have e1 : W.cell? ⟨wr.heap.size, 1, none⟩ = some (.int .i64 (tri3 a b c (k + 1))) := by rw [hW, World.cell?_alloc_at _ _ _ _ rfl]; rfl
          have c1 := (HQ.out.below HBW.out).c1
          have c2 := (HQ.out.below HBW.out).c2
          have HAP := Lib.hid (HQ.out.below HBW.out.drew).apm
          have HW := Lib.hid hW
          have wr1 : IntKind.i64.wrap 1 = 1 := by decide
          have wr2 : IntKind.i64.wrap 2 = 2 := by decide
          have wr3 : IntKind.i64.wrap 3 = 3 := by decide
          have tm1 : (1 : Int).tmod 3 = 1 := rfl
          have tm2 : (2 : Int).tmod 3 = 2 := rfl
          have tm3 : (3 : Int).tmod 3 = 0 := rfl
          have HKX : Hid (i64ok (tri3 a b c k : Int)) := by rcases hk3 with rfl | rfl | rfl <;> first | exact HE0.out | exact HE1.out | exact HE2.out
          have HKY : Hid (i64ok (tri3 a b c (k + 1) : Int)) := by rcases hk3 with rfl | rfl | rfl <;> first | exact HE0.out | exact HE1.out | exact HE2.out
          have HK := Lib.hid (keyE HKX.out HKY.out)
          have HSP := Lib.hid (HQ.out.below HBW.out).spm
          have HROW := Lib.hid ((HQ.out.below HBW.out).rows.at (tri3 a b c k))
          have HRB := Lib.hid ((HQ.out.below HBW.out).row_ne (HQ.out.below HBW.out.drew).apm (tri3 a b c k))
          have HRF := Lib.hid (HQ.out.row_facts (tri3 a b c k))
          have HSL := Lib.hid (HQ.out.spl (tri3 a b c k))
          have HKXX := Lib.hid HKX.out
          have HNE : Hid (mb ≠ ba ∧ bs ≠ ba ∧ wr.heap.size ≠ ba) := ⟨HQ.out.mb_ne HQ.out.apm, Ne.symm HQ.out.nab, fun e => by have := HQ.out.apm.lt; omega⟩
          clear hW
          rcases hk3 with rfl | rfl | rfl
          · simp [tri3] at c1 e0 e1 HK HAP HSP HROW HRB HRF HSL HKXX
            go_wp2
            have hW' := HW.out
            simp [tri3] at hW'
            rw [← hW']
            clear hW'
            go_still_tail 11, (by kernel_rfl)
            clear hl0 hl1 hl2 hl3 hl4 hl5 c1
            go_wp2_with (at_mapUpdate; refine wp_store _ rfl _ _ _ 113 rfl 117 3 edgeLaw Tryz.underlying113 ba _ _ rfl HAP.out (by unfold maxLen; omega) _ _ rfl rfl _ HK.out ?_; intro W2 hap2 hg2)
            go_frame
            have HG2 : Hid (W.grownBy W2 (some ba)) := grown_drew (w := W) hg2
            have HAP2 := Lib.hid hap2
            clear hap2 hg2
            have n2 : Reads3 W2.drew mb bs wr.heap.size (.int .i64 a) (.int .i64 b) := Reads3.grown (w := W) (w' := W2) ⟨c2, e0, e1⟩ HG2.out (by simpa using HNE.out.1) (by simpa using HNE.out.2.2)
            have HSP2 := Lib.hid (FMap.kept HSP.out HG2.out (by simpa using HNE.out.2.1))
            have hS2 := lookS (w := W2.drew) HSP2.out HKXX.out
            have hS3 := lookS (w := (W2.alloc (.cells #[.int .i64 b] 3)).drew) (FMap.drew (HSP2.out.kept (World.grownBy_alloc W2 _ none) (by simp))) HKXX.out
            have HOI := Lib.hid (World.ownsInts.kept HROW.out HG2.out (.inr HRB.out))
            clear c2 e0 e1
            go_region_held3 (fun w' => w'.cell? ⟨mb, 2, none⟩ = some (.map (some bs)) ∧ w'.cell? ⟨wr.heap.size, 0, none⟩ = some (.int .i64 a) ∧ w'.cell? ⟨wr.heap.size, 1, none⟩ = some (.int .i64 b)) (first | assumption | exact n2 | exact Reads3.alloc n2 _ | exact n3 | exact n4)
              (first
                | (refine step_append_lies _ rfl _ _ 72 rfl 0 3 i0 (.int .i64 0) 1 8 Tryz.underlying72 hi hz0 hz1 hz2 rfl (by decide) (atSv sv' a) _ _ rfl (World.ownsRow.alloc (w := W2.drew) HOI.out.1 _) ⟨W2.heap.size, 0, none⟩ 1 1 [.int .i64 b] rfl rfl (cell_one_new _ _ _) (ints_oneCell .i64 [b]) (by decide) (by have := HSL.out; unfold maxLen; omega) (by have := HSL.out; omega) (Nat.zero_le _) _ rfl ?_
                   intro g3 cap3 W3 hown3 hg3 hloc3 hlt3
                   have n3 := Reads3.grown (Reads3.alloc n2 _) hg3 (fun e => HRF.out.1 e.symm) (fun e => HRF.out.2.1 e.symm)
                   obtain ⟨W4, hrun4, hsp4, hg4⟩ := FMap.store (key := .int .i64 (a : Int)) (FMap.kept (FMap.kept HSP2.out.drew (World.grownBy_alloc W2.drew _ none) (by simp)) hg3 (fun e => HRF.out.2.2.1 e.symm)) intLaw Tryz.underlying114 (by unfold maxLen; omega) (keyI HKXX.out) (.slice (some ⟨g3, 0, none⟩) (((Mk M a b c 0).sp (a : Int)).length + 1) cap3)
                   have n4 := Reads3.grown n3 hg4 (by simpa using HRF.out.2.2.2.1) (by simpa using HRF.out.2.2.2.2)))
            all_goals
              go_wp2
              have b22 : Below W2.heap.size W2 (W2.alloc (.cells #[.int .i64 b] 3)).drew := ((Below.refl _ W2).alloc (Nat.le_refl _) _).drew
              obtain ⟨p1, p2, p3⟩ := round_parts (n := n) (M := Mk M a b c 0) (L := .cells #[.int .i64 a, .int .i64 b, .int .i64 b, .int .i64 c, .int .i64 c, .int .i64 a] 136 (0, 0)) HQ.out HS2.out HP.out.flt s13.out HLQ.out HKY.out HBW.out HG2.out HAP2.out b22 hg3 hown3 hloc3 hsp4 hg4
              refine ⟨?_, ?_⟩
              · exact ⟨_, _, _, _, _, _, _, _, _, _, _, _, _, _, _, _, _, _, _, _, _, _, _, _, _, _, _, _, _, _, _, _, _, _, _, ⟨1, _, by omega, rfl, p1, p2, p3⟩, rfl⟩
              · simp [intOf]
          · simp [tri3] at c1 e0 e1 HK HAP HSP HROW HRB HRF HSL HKXX
            go_wp2
            have hW' := HW.out
            simp [tri3] at hW'
            rw [← hW']
            clear hW'
            go_still_tail 11, (by kernel_rfl)
            clear hl0 hl1 hl2 hl3 hl4 hl5 c1
            go_wp2_with (at_mapUpdate; refine wp_store _ rfl _ _ _ 113 rfl 117 3 edgeLaw Tryz.underlying113 ba _ _ rfl HAP.out (by unfold maxLen; omega) _ _ rfl rfl _ HK.out ?_; intro W2 hap2 hg2)
            go_frame
            have HG2 : Hid (W.grownBy W2 (some ba)) := grown_drew (w := W) hg2
            have HAP2 := Lib.hid hap2
            clear hap2 hg2
            have n2 : Reads3 W2.drew mb bs wr.heap.size (.int .i64 b) (.int .i64 c) := Reads3.grown (w := W) (w' := W2) ⟨c2, e0, e1⟩ HG2.out (by simpa using HNE.out.1) (by simpa using HNE.out.2.2)
            have HSP2 := Lib.hid (FMap.kept HSP.out HG2.out (by simpa using HNE.out.2.1))
            have hS2 := lookS (w := W2.drew) HSP2.out HKXX.out
            have hS3 := lookS (w := (W2.alloc (.cells #[.int .i64 c] 3)).drew) (FMap.drew (HSP2.out.kept (World.grownBy_alloc W2 _ none) (by simp))) HKXX.out
            have HOI := Lib.hid (World.ownsInts.kept HROW.out HG2.out (.inr HRB.out))
            clear c2 e0 e1
            go_region_held3 (fun w' => w'.cell? ⟨mb, 2, none⟩ = some (.map (some bs)) ∧ w'.cell? ⟨wr.heap.size, 0, none⟩ = some (.int .i64 b) ∧ w'.cell? ⟨wr.heap.size, 1, none⟩ = some (.int .i64 c)) (first | assumption | exact n2 | exact Reads3.alloc n2 _ | exact n3 | exact n4)
              (first
                | (refine step_append_lies _ rfl _ _ 72 rfl 0 3 i0 (.int .i64 0) 1 8 Tryz.underlying72 hi hz0 hz1 hz2 rfl (by decide) (atSv sv' b) _ _ rfl (World.ownsRow.alloc (w := W2.drew) HOI.out.1 _) ⟨W2.heap.size, 0, none⟩ 1 1 [.int .i64 c] rfl rfl (cell_one_new _ _ _) (ints_oneCell .i64 [c]) (by decide) (by have := HSL.out; unfold maxLen; omega) (by have := HSL.out; omega) (Nat.zero_le _) _ rfl ?_
                   intro g3 cap3 W3 hown3 hg3 hloc3 hlt3
                   have n3 := Reads3.grown (Reads3.alloc n2 _) hg3 (fun e => HRF.out.1 e.symm) (fun e => HRF.out.2.1 e.symm)
                   obtain ⟨W4, hrun4, hsp4, hg4⟩ := FMap.store (key := .int .i64 (b : Int)) (FMap.kept (FMap.kept HSP2.out.drew (World.grownBy_alloc W2.drew _ none) (by simp)) hg3 (fun e => HRF.out.2.2.1 e.symm)) intLaw Tryz.underlying114 (by unfold maxLen; omega) (keyI HKXX.out) (.slice (some ⟨g3, 0, none⟩) (((Mk M a b c 1).sp (b : Int)).length + 1) cap3)
                   have n4 := Reads3.grown n3 hg4 (by simpa using HRF.out.2.2.2.1) (by simpa using HRF.out.2.2.2.2)))
            all_goals
              go_wp2
              have b22 : Below W2.heap.size W2 (W2.alloc (.cells #[.int .i64 c] 3)).drew := ((Below.refl _ W2).alloc (Nat.le_refl _) _).drew
              obtain ⟨p1, p2, p3⟩ := round_parts (n := n + 1) (M := Mk M a b c 1) (L := .cells #[.int .i64 a, .int .i64 b, .int .i64 b, .int .i64 c, .int .i64 c, .int .i64 a] 136 (0, 0)) HQ.out HS2.out HP.out.flt s13.out HLQ.out HKY.out HBW.out HG2.out HAP2.out b22 hg3 hown3 hloc3 hsp4 hg4
              refine ⟨?_, ?_⟩
              · exact ⟨_, _, _, _, _, _, _, _, _, _, _, _, _, _, _, _, _, _, _, _, _, _, _, _, _, _, _, _, _, _, _, _, _, _, _, ⟨2, _, by omega, rfl, p1, p2, p3⟩, rfl⟩
              · simp [intOf]
          · simp [tri3] at c1 e0 e1 HK HAP HSP HROW HRB HRF HSL HKXX
            go_wp2
            have hW' := HW.out
            simp [tri3] at hW'
            rw [← hW']
            clear hW'
            go_still_tail 11, (by kernel_rfl)
            clear hl0 hl1 hl2 hl3 hl4 hl5 c1
            go_wp2_with (at_mapUpdate; refine wp_store _ rfl _ _ _ 113 rfl 117 3 edgeLaw Tryz.underlying113 ba _ _ rfl HAP.out (by unfold maxLen; omega) _ _ rfl rfl _ HK.out ?_; intro W2 hap2 hg2)
            go_frame
            have HG2 : Hid (W.grownBy W2 (some ba)) := grown_drew (w := W) hg2
            have HAP2 := Lib.hid hap2
            clear hap2 hg2
            have n2 : Reads3 W2.drew mb bs wr.heap.size (.int .i64 c) (.int .i64 a) := Reads3.grown (w := W) (w' := W2) ⟨c2, e0, e1⟩ HG2.out (by simpa using HNE.out.1) (by simpa using HNE.out.2.2)
            have HSP2 := Lib.hid (FMap.kept HSP.out HG2.out (by simpa using HNE.out.2.1))
            have hS2 := lookS (w := W2.drew) HSP2.out HKXX.out
            have hS3 := lookS (w := (W2.alloc (.cells #[.int .i64 a] 3)).drew) (FMap.drew (HSP2.out.kept (World.grownBy_alloc W2 _ none) (by simp))) HKXX.out
            have HOI := Lib.hid (World.ownsInts.kept HROW.out HG2.out (.inr HRB.out))
            clear c2 e0 e1
            go_region_held3 (fun w' => w'.cell? ⟨mb, 2, none⟩ = some (.map (some bs)) ∧ w'.cell? ⟨wr.heap.size, 0, none⟩ = some (.int .i64 c) ∧ w'.cell? ⟨wr.heap.size, 1, none⟩ = some (.int .i64 a)) (first | assumption | exact n2 | exact Reads3.alloc n2 _ | exact n3 | exact n4)
              (first
                | (refine step_append_lies _ rfl _ _ 72 rfl 0 3 i0 (.int .i64 0) 1 8 Tryz.underlying72 hi hz0 hz1 hz2 rfl (by decide) (atSv sv' c) _ _ rfl (World.ownsRow.alloc (w := W2.drew) HOI.out.1 _) ⟨W2.heap.size, 0, none⟩ 1 1 [.int .i64 a] rfl rfl (cell_one_new _ _ _) (ints_oneCell .i64 [a]) (by decide) (by have := HSL.out; unfold maxLen; omega) (by have := HSL.out; omega) (Nat.zero_le _) _ rfl ?_
                   intro g3 cap3 W3 hown3 hg3 hloc3 hlt3
                   have n3 := Reads3.grown (Reads3.alloc n2 _) hg3 (fun e => HRF.out.1 e.symm) (fun e => HRF.out.2.1 e.symm)
                   obtain ⟨W4, hrun4, hsp4, hg4⟩ := FMap.store (key := .int .i64 (c : Int)) (FMap.kept (FMap.kept HSP2.out.drew (World.grownBy_alloc W2.drew _ none) (by simp)) hg3 (fun e => HRF.out.2.2.1 e.symm)) intLaw Tryz.underlying114 (by unfold maxLen; omega) (keyI HKXX.out) (.slice (some ⟨g3, 0, none⟩) (((Mk M a b c 2).sp (c : Int)).length + 1) cap3)
                   have n4 := Reads3.grown n3 hg4 (by simpa using HRF.out.2.2.2.1) (by simpa using HRF.out.2.2.2.2)))
            all_goals
              go_wp2
              have b22 : Below W2.heap.size W2 (W2.alloc (.cells #[.int .i64 a] 3)).drew := ((Below.refl _ W2).alloc (Nat.le_refl _) _).drew
              obtain ⟨p1, p2, p3⟩ := round_parts (n := n + 2) (M := Mk M a b c 2) (L := .cells #[.int .i64 a, .int .i64 b, .int .i64 b, .int .i64 c, .int .i64 c, .int .i64 a] 136 (0, 0)) HQ.out HS2.out HP.out.flt s13.out HLQ.out HKY.out HBW.out HG2.out HAP2.out b22 hg3 hown3 hloc3 hsp4 hg4
              refine ⟨?_, ?_⟩
              · exact ⟨_, _, _, _, _, _, _, _, _, _, _, _, _, _, _, _, _, _, _, _, _, _, _, _, _, _, _, _, _, _, _, _, _, _, _, ⟨3, _, by omega, rfl, p1, p2, p3⟩, rfl⟩
              · simp [intOf]
        · have e : k = 3 := by omega
          subst e
          have c3 := HQ.out.c3
          have fz := HQ.out.fz 3
          have HCB := Lib.hid HQ.out.cb
          have HCM := Lib.hid (Mk_cnt M a b c 3)
          have HCP := Lib.hid HP.out.cb
          have hwr : IntKind.i64.wrap ((Mk M a b c 3).cnt + 1) = (Mk M a b c 3).cnt + 1 := by
            have := HCB.out
            simp [IntKind.wrap, IntKind.bits, IntKind.signed]; omega
          go_wp2
          go_ret
          obtain ⟨q1, q2⟩ := cnt_parts HQ.out ((Mk M a b c 3).cnt + 1) (by have := HCM.out; have := HCP.out; omega)
          refine .inr ⟨HTF.out, rfl, ⟨ba, bs, bf, Value.slice (some ⟨bp, off, none⟩) M.P.length cap, sv', ?_⟩, ?_⟩
          · refine q1.wider (fun g hg => ?_) (fun g hg => ?_)
            · rcases hg with hg | hg
              · exact .inl hg
              · exact .inr ⟨by have := s13.out; omega, by rw [World.size_setCell]; exact hg.2⟩
            · rcases hg with hg | hg
              · rw [World.size_setCell]; exact Nat.lt_of_lt_of_le (HP.out.flt g hg) HS2.out.size
              · exact hg.2
          · exact HS2.out.trans (q2.mono fun i hi => hi.elim .inl (fun e => .inr (by have := s13.out; omega)))

end Go.Proofs.YtdoaniccefdkaaaGreatDoor

/- (*Mesh).Make: its contract. -/
namespace Go.Proofs.YtdoaniccefdkaaaGreatDoor
open Go.RowKit Go.Maps Go.WideMaps

/-- what Make answers -/
def makeCode (M : MeshM) (a b c : Int) : Int :=
  if (hasM M a && hasM M b && hasM M c) = false then 11
  else if signM M a.toNat b.toNat c.toNat ≤ 0 then 14
  else if takenB M a b c then 14 else 0
/-- what the mesh is behind Make -/
def makeR (M : MeshM) (a b c : Int) : MeshM := if makeCode M a b c = 0 then makeM M a b c else M

theorem MeshAt.stays {w w' : World} {mb n n' : Nat} {M : MeshM} {F : Nat → Prop} (h : MeshAt w mb n M F) (hb : Below w.heap.size w w') (hn : n ≤ n') :
    MeshAt w' mb n' M (fun i => F i ∨ (w.heap.size ≤ i ∧ i < w'.heap.size)) := by
  obtain ⟨ba, bs, bf, pv, sv, h⟩ := h
  refine ⟨ba, bs, bf, pv, sv, ((h.below hb).mono hn).wider (fun g hg => .inl hg) (fun g hg => ?_)⟩
  rcases hg with hg | hg
  · exact Nat.lt_of_lt_of_le (h.flt g hg) hb.size
  · exact hg.2

theorem MeshAt.below {w w' : World} {mb n : Nat} {M : MeshM} {F : Nat → Prop} (h : MeshAt w mb n M F) (hb : Below w.heap.size w w') : MeshAt w' mb n M F := by
  obtain ⟨ba, bs, bf, pv, sv, h⟩ := h
  exact ⟨ba, bs, bf, pv, sv, h.below hb⟩

theorem MeshAt.same {w w' : World} {mb n : Nat} {M : MeshM} {F : Nat → Prop} (h : MeshAt w mb n M F) (hsz : w.heap.size ≤ w'.heap.size) (hb : ∀ g, F g → w'.heap[g]? = w.heap[g]?) : MeshAt w' mb n M F := by
  obtain ⟨ba, bs, bf, pv, sv, h⟩ := h
  exact ⟨ba, bs, bf, pv, sv, h.same hsz hb⟩

theorem MeshAt.flt {w : World} {mb n : Nat} {M : MeshM} {F : Nat → Prop} (h : MeshAt w mb n M F) : ∀ g, F g → g < w.heap.size := by
  obtain ⟨ba, bs, bf, pv, sv, h⟩ := h; exact h.flt

theorem MeshAt.mono {w : World} {mb n n' : Nat} {M : MeshM} {F : Nat → Prop} (h : MeshAt w mb n M F) (hn : n ≤ n') : MeshAt w mb n' M F := by
  obtain ⟨ba, bs, bf, pv, sv, h⟩ := h; exact ⟨ba, bs, bf, pv, sv, h.mono hn⟩

theorem make_walk {w : World} {mb n : Nat} {M : MeshM} {F : Nat → Prop} (h : MeshAt w mb n M F) (h64 : ∀ p, p ∈ M.P → pt64 p) (hl : M.P.length ≤ 1048576) (hn : n ≤ 1000000000) (a b c : Int) :
    Calls Tryz.prog 28 #[.pointer (some ⟨mb, 0, none⟩), .int .i64 a, .int .i64 b, .int .i64 c] w fun r w' =>
      r = .returned (.int .i64 (makeCode M a b c)) ∧ MeshAt w' mb (n + 3) (makeR M a b c) (fun i => F i ∨ (w.heap.size ≤ i ∧ i < w'.heap.size)) ∧ Stay F w w' := by
  cases hh : hasM M a && hasM M b && hasM M c
  · refine (make_index h a b c hh).mono ?_
    rintro r w' ⟨rfl, rfl⟩
    have hc : makeCode M a b c = 11 := by unfold makeCode; rw [if_pos hh]
    have hr : makeR M a b c = M := by unfold makeR; rw [hc]; rfl
    rw [hc, hr]
    exact ⟨rfl, h.stays (Below.refl _ _) (by omega), Stay.refl _ _⟩
  · have hh' := hh
    simp only [Bool.and_eq_true] at hh'
    obtain ⟨⟨h1, h2⟩, h3⟩ := hh'
    unfold hasM at h1 h2 h3
    simp only [Bool.and_eq_true, decide_eq_true_eq] at h1 h2 h3
    obtain ⟨x, rfl⟩ : ∃ x : Nat, a = x := ⟨a.toNat, by omega⟩
    obtain ⟨y, rfl⟩ : ∃ y : Nat, b = y := ⟨b.toNat, by omega⟩
    obtain ⟨z, rfl⟩ : ∃ z : Nat, c = z := ⟨c.toNat, by omega⟩
    by_cases hs : signM M x y z ≤ 0
    · refine (make_sign h h64 hl (a := x) (b := y) (c := z) (by omega) (by omega) (by omega) hs).mono ?_
      rintro r w' ⟨rfl, hb⟩
      have hc : makeCode M x y z = 14 := by unfold makeCode; rw [if_neg (by rw [hh]; decide), if_pos (by simpa using hs)]
      have hr : makeR M x y z = M := by unfold makeR; rw [hc]; rfl
      rw [hc, hr]
      exact ⟨rfl, h.stays hb (by omega), Stay.of_below hb⟩
    · refine (make_rest h h64 hl hn (a := x) (b := y) (c := z) (by omega) (by omega) (by omega) (by omega)).mono ?_
      rintro r w' (⟨ht, rfl, hb⟩ | ⟨ht, rfl, hm, hst⟩)
      · have hc : makeCode M x y z = 14 := by unfold makeCode; rw [if_neg (by rw [hh]; decide), if_neg (by simpa using hs), if_pos ht]
        have hr : makeR M x y z = M := by unfold makeR; rw [hc]; rfl
        rw [hc, hr]
        exact ⟨rfl, h.stays hb (by omega), Stay.of_below hb⟩
      · have hc : makeCode M x y z = 0 := by unfold makeCode; rw [if_neg (by rw [hh]; decide), if_neg (by simpa using hs), if_neg (by rw [ht]; decide)]
        have hr : makeR M x y z = makeM M x y z := by unfold makeR; rw [hc]; rfl
        rw [hc, hr]
        exact ⟨rfl, hm, hst⟩

end Go.Proofs.YtdoaniccefdkaaaGreatDoor

/- The plain mesh: what stays true of it whatever is made. -/
namespace Go.Proofs.YtdoaniccefdkaaaGreatDoor
open Tvf

theorem det_rot (a b c : Pt) : det a b c = det b c a := by
  unfold det
  generalize fval a.1 = ax; generalize fval a.2 = ay; generalize fval b.1 = bx; generalize fval b.2 = by'; generalize fval c.1 = cx; generalize fval c.2 = cy
  grind
theorem det_twin (a b : Pt) : det a a b = 0 := by
  unfold det
  simp
theorem signI_rot (a b c : Pt) : signI a b c = signI b c a := by
  unfold signI
  rw [det_rot]
  cases h1 : ptOK a <;> cases h2 : ptOK b <;> cases h3 : ptOK c <;> simp [h1, h2, h3]
theorem signI_twin (a b : Pt) : signI a a b = 0 := by
  unfold signI
  rw [det_twin]
  split <;> rfl
theorem signM_rot (M : MeshM) (a b c : Nat) : signM M a b c = signM M b c a := signI_rot _ _ _
theorem signM_ne {M : MeshM} {a b c : Nat} (h : 0 < signM M a b c) : a ≠ b ∧ b ≠ c ∧ a ≠ c := by
  have z : ∀ x y : Nat, signM M x x y = 0 := fun x y => signI_twin _ _
  refine ⟨fun e => ?_, fun e => ?_, fun e => ?_⟩
  · subst e; rw [z] at h; omega
  · subst e; rw [signM_rot, z] at h; omega
  · subst e; rw [signM_rot, signM_rot, z] at h; omega

structure Sound (M : MeshM) : Prop where
  rot : Rot M.ap
  win : Within M.ap M.P.length
  sgn : ∀ a b c, M.ap a b = some c → 0 < signM M a.toNat b.toNat c.toNat
  cnt : 3 * M.cnt = (dirL M.ap M.P.length).length
  sp : ∀ a b, b ∈ M.sp a ↔ M.ap a b ≠ none

theorem Sound.within3 {M : MeshM} (h : Sound M) {a b c : Int} (e : M.ap a b = some c) : (0 ≤ a ∧ a < M.P.length) ∧ (0 ≤ b ∧ b < M.P.length) ∧ (0 ≤ c ∧ c < M.P.length) := by
  have h1 := h.win a b (by rw [e]; simp)
  have h2 := h.win b c (by rw [h.rot.rot _ _ _ e]; simp)
  exact ⟨h1.1, h1.2, h2.2⟩

theorem emptyM_sound (l : List Pt) : Sound (emptyM l) := by
  refine ⟨⟨fun _ _ _ h => (nomatch h), fun _ _ _ h => (nomatch h)⟩, fun _ _ h => absurd rfl h, fun _ _ _ h => (nomatch h), ?_, fun a b => ?_⟩
  · have : (idxL l.length).countP (inB (emptyM l).ap) = 0 := List.countP_eq_zero.2 fun x _ => by simp [inB, emptyM]
    rw [dir_count, show (emptyM l).P = l from rfl, this]; rfl
  · simp [emptyM]

theorem countP_upd {α : Type} {p q : α → Bool} {x : α} : ∀ (l : List α), l.Nodup → x ∈ l → (∀ y, y ≠ x → q y = p y) → p x = false → q x = true → l.countP q = l.countP p + 1
  | [], _, hx, _, _, _ => absurd hx (by simp)
  | y :: l, hn, hx, ho, hp, hq => by
    have hn' := List.pairwise_cons.1 hn
    by_cases e : x = y
    · subst e
      have : l.countP q = l.countP p := countP_same l fun z hz => ho z fun e => hn'.1 z hz e.symm
      simp only [List.countP_cons, hp, hq, this]; simp
    · have ih := countP_upd l hn'.2 ((List.mem_cons.1 hx).resolve_left e) ho hp hq
      have := ho y (Ne.symm e)
      simp only [List.countP_cons, ih, this]
      omega

theorem dir_up {ap : Int → Int → Option Int} {n : Nat} {a b c : Int} (ha : 0 ≤ a ∧ a < n) (hb : 0 ≤ b ∧ b < n) (h : ap a b = none) : (dirL (upE ap a b c) n).length = (dirL ap n).length + 1 := by
  rw [dir_count, dir_count]
  refine countP_upd (x := (a, b)) _ (ltP_nodup (idxL_sorted n)) (mem_idxL.2 ⟨ha, hb⟩) (fun y hy => ?_) ?_ ?_
  · unfold inB upE
    rw [if_neg]
    rintro ⟨e1, e2⟩
    exact hy (by obtain ⟨u, v⟩ := y; dsimp only at e1 e2; rw [e1, e2])
  · unfold inB; dsimp only; rw [h]; rfl
  · unfold inB upE; simp

theorem dir_del {ap : Int → Int → Option Int} {n : Nat} {a b : Int} (ha : 0 ≤ a ∧ a < n) (hb : 0 ≤ b ∧ b < n) (h : ap a b ≠ none) : (dirL ap n).length = (dirL (delE ap a b) n).length + 1 := by
  rw [dir_count, dir_count]
  refine countP_upd (x := (a, b)) _ (ltP_nodup (idxL_sorted n)) (mem_idxL.2 ⟨ha, hb⟩) (fun y hy => ?_) ?_ ?_
  · unfold inB delE
    rw [if_neg]
    rintro ⟨e1, e2⟩
    exact hy (by obtain ⟨u, v⟩ := y; dsimp only at e1 e2; rw [e1, e2])
  · unfold inB delE; simp
  · unfold inB; dsimp only; cases e : ap a b
    · exact absurd e h
    · rfl

/-- the edges behind a triangle more, and less -/
def up3 (ap : Int → Int → Option Int) (a b c : Int) : Int → Int → Option Int := upE (upE (upE ap a b c) b c a) c a b
def del3 (ap : Int → Int → Option Int) (a b c : Int) : Int → Int → Option Int := delE (delE (delE ap a b) b c) c a

theorem up3_some {ap : Int → Int → Option Int} {a b c x y z : Int} (h0 : ap a b = none) (h1 : ap b c = none) (h2 : ap c a = none) (hne : a ≠ b ∧ b ≠ c ∧ a ≠ c) :
    up3 ap a b c x y = some z ↔ ap x y = some z ∨ (x = a ∧ y = b ∧ z = c) ∨ (x = b ∧ y = c ∧ z = a) ∨ (x = c ∧ y = a ∧ z = b) := by
  unfold up3 upE
  by_cases q1 : x = c ∧ y = a
  · rw [if_pos q1]; obtain ⟨rfl, rfl⟩ := q1
    rw [h2]; simp only [Option.some.injEq, reduceCtorEq, false_or, true_and]
    constructor <;> intro h <;> omega
  · rw [if_neg q1]
    by_cases q2 : x = b ∧ y = c
    · rw [if_pos q2]; obtain ⟨rfl, rfl⟩ := q2
      rw [h1]; simp only [Option.some.injEq, reduceCtorEq, false_or, true_and]
      constructor <;> intro h <;> omega
    · rw [if_neg q2]
      by_cases q3 : x = a ∧ y = b
      · rw [if_pos q3]; obtain ⟨rfl, rfl⟩ := q3
        rw [h0]; simp only [Option.some.injEq, reduceCtorEq, false_or, true_and]
        constructor <;> intro h <;> omega
      · rw [if_neg q3]
        constructor
        · exact .inl
        · rintro (e | ⟨e1, e2, _⟩ | ⟨e1, e2, _⟩ | ⟨e1, e2, _⟩)
          · exact e
          · exact absurd ⟨e1, e2⟩ q3
          · exact absurd ⟨e1, e2⟩ q2
          · exact absurd ⟨e1, e2⟩ q1

theorem del3_some {ap : Int → Int → Option Int} {a b c x y z : Int} :
    del3 ap a b c x y = some z ↔ ap x y = some z ∧ ¬(x = a ∧ y = b) ∧ ¬(x = b ∧ y = c) ∧ ¬(x = c ∧ y = a) := by
  unfold del3 delE
  by_cases q1 : x = c ∧ y = a
  · rw [if_pos q1]; simp [q1]
  · rw [if_neg q1]
    by_cases q2 : x = b ∧ y = c
    · rw [if_pos q2]; simp [q2]
    · rw [if_neg q2]
      by_cases q3 : x = a ∧ y = b
      · rw [if_pos q3]; simp [q3]
      · rw [if_neg q3]
        exact ⟨fun e => ⟨e, q3, q2, q1⟩, fun e => e.1⟩

theorem opt_ext {f g : Int → Int → Option Int} (h : ∀ x y z, f x y = some z ↔ g x y = some z) : f = g := by
  funext x y
  cases e : f x y with
  | none =>
    cases e' : g x y with
    | none => rfl
    | some z => rw [(h x y z).2 e'] at e; cases e
  | some z => exact ((h x y z).1 e).symm

/-- a triangle that is made, and goes -/
theorem del_up {ap : Int → Int → Option Int} {a b c : Int} (h0 : ap a b = none) (h1 : ap b c = none) (h2 : ap c a = none) (hne : a ≠ b ∧ b ≠ c ∧ a ≠ c) : del3 (up3 ap a b c) c a b = ap := by
  refine opt_ext fun x y z => ?_
  rw [del3_some, up3_some h0 h1 h2 hne]
  constructor
  · rintro ⟨e | ⟨e1, e2, _⟩ | ⟨e1, e2, _⟩ | ⟨e1, e2, _⟩, q1, q2, q3⟩
    · exact e
    · exact absurd ⟨e1, e2⟩ q2
    · exact absurd ⟨e1, e2⟩ q3
    · exact absurd ⟨e1, e2⟩ q1
  · intro e
    refine ⟨.inl e, ?_, ?_, ?_⟩ <;> rintro ⟨rfl, rfl⟩
    · rw [h2] at e; cases e
    · rw [h0] at e; cases e
    · rw [h1] at e; cases e

/-- a triangle that goes, and is made again -/
theorem up_del {ap : Int → Int → Option Int} (hr : Rot ap) {a b c : Int} (h : ap a b = some c) : up3 (del3 ap b c a) a b c = ap := by
  have h1 := hr.rot _ _ _ h
  have h2 := hr.rot _ _ _ h1
  have gone : ∀ x y, (x = b ∧ y = c) ∨ (x = c ∧ y = a) ∨ (x = a ∧ y = b) → del3 ap b c a x y = none := by
    intro x y hxy
    cases e : del3 ap b c a x y with
    | none => rfl
    | some z =>
      have := del3_some.1 e
      rcases hxy with q | q | q
      · exact absurd q this.2.1
      · exact absurd q this.2.2.1
      · exact absurd q this.2.2.2
  refine opt_ext fun x y z => ?_
  rw [up3_some (gone _ _ (.inr (.inr ⟨rfl, rfl⟩))) (gone _ _ (.inl ⟨rfl, rfl⟩)) (gone _ _ (.inr (.inl ⟨rfl, rfl⟩))) (hr.ne _ _ _ h), del3_some]
  constructor
  · rintro (e | ⟨rfl, rfl, rfl⟩ | ⟨rfl, rfl, rfl⟩ | ⟨rfl, rfl, rfl⟩)
    · exact e.1
    · exact h
    · exact h1
    · exact h2
  · intro e
    by_cases q1 : x = a ∧ y = b
    · obtain ⟨rfl, rfl⟩ := q1
      rw [h] at e; cases e; exact .inr (.inl ⟨rfl, rfl, rfl⟩)
    · by_cases q2 : x = b ∧ y = c
      · obtain ⟨rfl, rfl⟩ := q2
        rw [h1] at e; cases e; exact .inr (.inr (.inl ⟨rfl, rfl, rfl⟩))
      · by_cases q3 : x = c ∧ y = a
        · obtain ⟨rfl, rfl⟩ := q3
          rw [h2] at e; cases e; exact .inr (.inr (.inr ⟨rfl, rfl, rfl⟩))
        · exact .inl ⟨e, q2, q3, q1⟩

theorem makeM_ap (M : MeshM) (a b c : Int) : (makeM M a b c).ap = up3 M.ap a b c := rfl
theorem makeM_P (M : MeshM) (a b c : Int) : (makeM M a b c).P = M.P := rfl

/-- Make answers 0: what holds then -/
theorem makeCode_ok {M : MeshM} {a b c : Int} (h : makeCode M a b c = 0) :
    ((0 ≤ a ∧ a < M.P.length) ∧ (0 ≤ b ∧ b < M.P.length) ∧ (0 ≤ c ∧ c < M.P.length)) ∧ 0 < signM M a.toNat b.toNat c.toNat ∧ M.ap a b = none ∧ M.ap b c = none ∧ M.ap c a = none := by
  unfold makeCode at h
  split at h
  · cases h
  · rename_i h1
    split at h
    · cases h
    · rename_i h2
      split at h
      · cases h
      · rename_i h3
        unfold takenB at h3
        unfold hasM at h1
        simp only [Bool.and_eq_true, decide_eq_true_eq, Bool.not_eq_false, Bool.or_eq_true, not_or, Bool.not_eq_true, Option.isSome_eq_false_iff, Option.isNone_iff_eq_none] at h1 h3
        exact ⟨⟨h1.1.1, h1.1.2, h1.2⟩, by omega, h3.1.1, h3.1.2, h3.2⟩

theorem makeCode_of {M : MeshM} {a b c : Int} (h1 : (0 ≤ a ∧ a < M.P.length) ∧ (0 ≤ b ∧ b < M.P.length) ∧ (0 ≤ c ∧ c < M.P.length)) (h2 : 0 < signM M a.toNat b.toNat c.toNat) (h3 : M.ap a b = none ∧ M.ap b c = none ∧ M.ap c a = none) : makeCode M a b c = 0 := by
  unfold makeCode
  rw [if_neg, if_neg, if_neg]
  · unfold takenB; rw [h3.1, h3.2.1, h3.2.2]; simp
  · omega
  · unfold hasM; simp; omega

theorem mem_upI {f : Int → List Int} {a x y : Int} {l : List Int} : y ∈ upI f a l x ↔ (x = a ∧ y ∈ l) ∨ (x ≠ a ∧ y ∈ f x) := by
  unfold upI
  split
  · rename_i e; simp [e]
  · rename_i e; simp [e]

theorem up_ne_none {ap : Int → Int → Option Int} {a b c x y : Int} : upE ap a b c x y ≠ none ↔ (x = a ∧ y = b) ∨ ap x y ≠ none := by
  unfold upE
  split
  · rename_i e; simp [e]
  · rename_i e; simp [e]

theorem sp_up {ap : Int → Int → Option Int} {sp : Int → List Int} (h : ∀ x y, y ∈ sp x ↔ ap x y ≠ none) (a b c : Int) : ∀ x y, y ∈ upI sp a (sp a ++ [b]) x ↔ upE ap a b c x y ≠ none := by
  intro x y
  rw [mem_upI, up_ne_none, List.mem_append, List.mem_singleton]
  constructor
  · rintro (⟨rfl, e | e⟩ | ⟨_, e⟩)
    · exact .inr ((h _ _).1 e)
    · exact .inl ⟨rfl, e⟩
    · exact .inr ((h _ _).1 e)
  · rintro (⟨e1, e2⟩ | e)
    · exact .inl ⟨e1, .inr e2⟩
    · by_cases q : x = a
      · subst q; exact .inl ⟨rfl, .inl ((h _ _).2 e)⟩
      · exact .inr ⟨q, (h _ _).2 e⟩

theorem sgn_toNat {M : MeshM} {a b c : Int} (h : 0 < signM M a.toNat b.toNat c.toNat) (h0 : 0 ≤ a ∧ 0 ≤ b ∧ 0 ≤ c) : a ≠ b ∧ b ≠ c ∧ a ≠ c := by
  have := signM_ne h
  omega

theorem makeR_sound {M : MeshM} (h : Sound M) (a b c : Int) : Sound (makeR M a b c) := by
  unfold makeR
  split
  · rename_i hc
    obtain ⟨⟨ra, rb, rc⟩, hs, h0, h1, h2⟩ := makeCode_ok hc
    have hne := sgn_toNat hs ⟨ra.1, rb.1, rc.1⟩
    have hs2 : 0 < signM M b.toNat c.toNat a.toNat := by rw [<- signM_rot]; exact hs
    have hs3 : 0 < signM M c.toNat a.toNat b.toNat := by rw [<- signM_rot]; exact hs2
    have S := fun x y z => up3_some (x := x) (y := y) (z := z) h0 h1 h2 hne
    refine ⟨⟨fun x y z e => ?_, fun x y z e => ?_⟩, fun x y e => ?_, fun x y z e => ?_, ?_, ?_⟩
    · rw [makeM_ap, S] at e ⊢
      rcases e with e | ⟨rfl, rfl, rfl⟩ | ⟨rfl, rfl, rfl⟩ | ⟨rfl, rfl, rfl⟩
      · exact .inl (h.rot.rot _ _ _ e)
      · exact .inr (.inr (.inl ⟨rfl, rfl, rfl⟩))
      · exact .inr (.inr (.inr ⟨rfl, rfl, rfl⟩))
      · exact .inr (.inl ⟨rfl, rfl, rfl⟩)
    · rw [makeM_ap, S] at e
      rcases e with e | ⟨rfl, rfl, rfl⟩ | ⟨rfl, rfl, rfl⟩ | ⟨rfl, rfl, rfl⟩
      · exact h.rot.ne _ _ _ e
      · exact hne
      · exact ⟨hne.2.1, Ne.symm hne.2.2, Ne.symm hne.1⟩
      · exact ⟨Ne.symm hne.2.2, hne.1, Ne.symm hne.2.1⟩
    · obtain ⟨z, e⟩ := Option.ne_none_iff_exists'.1 e
      rw [makeM_ap, S] at e
      rw [makeM_P]
      rcases e with e | ⟨rfl, rfl, rfl⟩ | ⟨rfl, rfl, rfl⟩ | ⟨rfl, rfl, rfl⟩
      · exact h.win _ _ (by rw [e]; simp)
      · exact ⟨ra, rb⟩
      · exact ⟨rb, rc⟩
      · exact ⟨rc, ra⟩
    · rw [makeM_ap, S] at e
      show 0 < signM M x.toNat y.toNat z.toNat
      rcases e with e | ⟨rfl, rfl, rfl⟩ | ⟨rfl, rfl, rfl⟩ | ⟨rfl, rfl, rfl⟩
      · exact h.sgn _ _ _ e
      · exact hs
      · exact hs2
      · exact hs3
    · rw [makeM_ap, makeM_P]
      show 3 * (M.cnt + 1) = _
      unfold up3
      rw [dir_up rc ra, dir_up rb rc, dir_up ra rb h0]
      · have := h.cnt; omega
      · unfold upE; rw [if_neg (by intro e; exact hne.1 e.1.symm)]; exact h1
      · unfold upE; rw [if_neg (by intro e; exact hne.2.1 e.1.symm), if_neg (by intro e; exact hne.2.2 e.1.symm)]; exact h2
    · exact sp_up (sp_up (sp_up h.sp a b c) b c a) c a b
  · exact h

end Go.Proofs.YtdoaniccefdkaaaGreatDoor

/- The plain mesh: made of its own triangles again; a triangle that is made and goes. -/
namespace Go.Proofs.YtdoaniccefdkaaaGreatDoor

def rotT (j : Nat) (t : Tri3) : Tri3 := if j = 0 then t else if j = 1 then (t.2.1, t.2.2, t.1) else (t.2.2, t.1, t.2.1)
def inT (t : Tri3) (x y z : Int) : Prop := (x = t.1 ∧ y = t.2.1 ∧ z = t.2.2) ∨ (x = t.2.1 ∧ y = t.2.2 ∧ z = t.1) ∨ (x = t.2.2 ∧ y = t.1 ∧ z = t.2.1)
theorem inT_rot (j : Nat) (t : Tri3) (x y z : Int) : inT (rotT j t) x y z ↔ inT t x y z := by
  unfold rotT inT
  split
  · exact Iff.rfl
  · split <;> dsimp only <;> constructor <;> intro h <;> omega

def foldM (M : MeshM) (l : List Tri3) : MeshM := l.foldl (fun M t => makeR M t.1 t.2.1 t.2.2) M
theorem foldM_nil (M : MeshM) : foldM M [] = M := rfl
theorem foldM_cons (M : MeshM) (t : Tri3) (l : List Tri3) : foldM M (t :: l) = foldM (makeR M t.1 t.2.1 t.2.2) l := rfl
theorem foldM_snoc (M : MeshM) (t : Tri3) (l : List Tri3) : foldM M (l ++ [t]) = makeR (foldM M l) t.1 t.2.1 t.2.2 := by unfold foldM; rw [List.foldl_append]; rfl
theorem makeR_P (M : MeshM) (a b c : Int) : (makeR M a b c).P = M.P := by unfold makeR; split <;> rfl
theorem foldM_P (l : List Tri3) : ∀ M : MeshM, (foldM M l).P = M.P := by
  induction l with
  | nil => exact fun _ => rfl
  | cons t l ih => intro M; rw [foldM_cons, ih, makeR_P]
theorem foldM_sound (l : List Tri3) : ∀ {M : MeshM}, Sound M → Sound (foldM M l) := by
  induction l with
  | nil => exact fun h => h
  | cons t l ih => intro M h; rw [foldM_cons]; exact ih (makeR_sound h _ _ _)
theorem madeM_sound (P : List Pt) (l : List Tri3) : Sound (foldM (emptyM P) l) := foldM_sound l (emptyM_sound P)

/-- all are made -/
def allOk : MeshM → List Tri3 → Prop
  | _, [] => True
  | M, t :: r => makeCode M t.1 t.2.1 t.2.2 = 0 ∧ allOk (makeR M t.1 t.2.1 t.2.2) r

theorem allOk_at : ∀ (l : List Tri3) (M : MeshM), allOk M l → ∀ k, (hk : k < l.length) → makeCode (foldM M (l.take k)) l[k].1 l[k].2.1 l[k].2.2 = 0
  | [], _, _, k, hk => absurd hk (by simp)
  | t :: r, M, h, 0, _ => h.1
  | t :: r, M, h, k + 1, hk => by
    have := allOk_at r _ h.2 k (by simpa using hk)
    exact this

theorem rot_in {ap : Int → Int → Option Int} (hr : Rot ap) {t : Tri3} (h : ap t.1 t.2.1 = some t.2.2) {x y z : Int} (hi : inT t x y z) : ap x y = some z := by
  have h1 := hr.rot _ _ _ h
  have h2 := hr.rot _ _ _ h1
  rcases hi with ⟨rfl, rfl, rfl⟩ | ⟨rfl, rfl, rfl⟩ | ⟨rfl, rfl, rfl⟩ <;> assumption

theorem signM_P {M M' : MeshM} (h : M'.P = M.P) (a b c : Nat) : signM M' a b c = signM M a b c := by unfold signM; rw [h]

theorem again {M : MeshM} (h : Sound M) : ∀ (l done : List Tri3) (M0 : MeshM), M0.P = M.P → (∀ x y z, M0.ap x y = some z ↔ ∃ t, t ∈ done ∧ inT t x y z) → (∀ t, t ∈ done ++ l → M.ap t.1 t.2.1 = some t.2.2) →
    (done ++ l).Pairwise (fun t u => ∀ x y z, ¬(inT t x y z ∧ inT u x y z)) → allOk M0 l ∧ ∀ x y z, (foldM M0 l).ap x y = some z ↔ ∃ t, t ∈ done ++ l ∧ inT t x y z
  | [], done, M0, _, hd, _, _ => ⟨trivial, fun x y z => by rw [foldM_nil, List.append_nil]; exact hd x y z⟩
  | t :: r, done, M0, hP, hd, hin, hp => by
    have ht := hin t (by simp)
    have hw := h.within3 ht
    have hs := h.sgn _ _ _ ht
    have hpa := List.pairwise_append.1 hp
    have free : ∀ x y z, inT t x y z → M0.ap x y = none := by
      intro x y z hi
      cases e : M0.ap x y with
      | none => rfl
      | some v =>
        obtain ⟨u, hu, hui⟩ := (hd x y v).1 e
        have e1 := rot_in h.rot (hin u (by simp [hu])) hui
        have e2 := rot_in h.rot ht hi
        rw [e1] at e2; cases e2
        exact absurd ⟨hui, hi⟩ (hpa.2.2 u hu t (by simp) x y _)
    have f0 := free t.1 t.2.1 t.2.2 (.inl ⟨rfl, rfl, rfl⟩)
    have f1 := free t.2.1 t.2.2 t.1 (.inr (.inl ⟨rfl, rfl, rfl⟩))
    have f2 := free t.2.2 t.1 t.2.1 (.inr (.inr ⟨rfl, rfl, rfl⟩))
    have hc : makeCode M0 t.1 t.2.1 t.2.2 = 0 := makeCode_of (by rw [hP]; exact hw) (by rw [signM_P hP]; exact hs) ⟨f0, f1, f2⟩
    have hR : makeR M0 t.1 t.2.1 t.2.2 = makeM M0 t.1 t.2.1 t.2.2 := by unfold makeR; rw [if_pos hc]
    have happ : done ++ t :: r = (done ++ [t]) ++ r := by simp
    have ih := again h r (done ++ [t]) (makeR M0 t.1 t.2.1 t.2.2) (by rw [makeR_P]; exact hP) (fun x y z => by
      rw [hR, makeM_ap, up3_some f0 f1 f2 (h.rot.ne _ _ _ ht), hd]
      constructor
      · rintro (⟨u, hu, hui⟩ | e)
        · exact ⟨u, by simp [hu], hui⟩
        · exact ⟨t, by simp, e⟩
      · rintro ⟨u, hu, hui⟩
        rcases List.mem_append.1 hu with hu | hu
        · exact .inl ⟨u, hu, hui⟩
        · rw [List.mem_singleton] at hu; subst hu; exact .inr hui) (by rw [<- happ]; exact hin) (by rw [<- happ]; exact hp)
    rw [foldM_cons, happ]
    exact ⟨⟨hc, ih.1⟩, ih.2⟩

/-- the triangles from other corners on, in another order -/
def turnL (T : List Tri3) (s : Nat) : List Tri3 := (List.range T.length).map fun i => rotT ((i + (i + s) % T.length) % 3) (T.getD ((i + s) % T.length) (0, 0, 0))

theorem canon_eq {t u : Tri3} (ht : t.1 < t.2.1 ∧ t.1 < t.2.2) (hu : u.1 < u.2.1 ∧ u.1 < u.2.2) {x y z : Int} (h : inT t x y z) (k : inT u x y z) : t = u := by
  unfold inT at *
  obtain ⟨a, b, c⟩ := t; obtain ⟨d, e, f⟩ := u
  simp only [Prod.mk.injEq]
  dsimp only at *
  omega

theorem mod_inj {n i j s : Nat} (hi : i < n) (hj : j < n) (h : (i + s) % n = (j + s) % n) : i = j := by
  have h1 := Nat.mod_add_div (i + s) n
  have h2 := Nat.mod_add_div (j + s) n
  rw [h] at h1
  generalize (i + s) / n = a at *
  generalize (j + s) / n = b at *
  rcases Nat.lt_trichotomy a b with q | q | q
  · have : n * (a + 1) ≤ n * b := Nat.mul_le_mul_left n q
    rw [Nat.mul_add] at this; omega
  · subst q; omega
  · have : n * (b + 1) ≤ n * a := Nat.mul_le_mul_left n q
    rw [Nat.mul_add] at this; omega

theorem mod_onto {n k s : Nat} (hk : k < n) : ∃ i, i < n ∧ (i + s) % n = k := by
  refine ⟨(k + (n - s % n)) % n, Nat.mod_lt _ (by omega), ?_⟩
  have hs := Nat.mod_lt s (show n > 0 by omega)
  rw [Nat.mod_add_mod]
  have h1 := Nat.mod_add_div s n
  have e : k + (n - s % n) + s = k + n * (1 + s / n) := by rw [Nat.mul_add]; omega
  rw [e, Nat.add_mul_mod_self_left, Nat.mod_eq_of_lt hk]

theorem getD_mem3 {l : List Tri3} {k : Nat} (h : k < l.length) : l.getD k (0, 0, 0) ∈ l := by
  rw [List.getD_eq_getElem?_getD, List.getElem?_eq_getElem h]; exact List.getElem_mem h

theorem nodup_getD {l : List Tri3} (h : l.Nodup) {i j : Nat} (hi : i < l.length) (hj : j < l.length) (e : l.getD i (0, 0, 0) = l.getD j (0, 0, 0)) : i = j := by
  rw [List.getD_eq_getElem?_getD, List.getD_eq_getElem?_getD, List.getElem?_eq_getElem hi, List.getElem?_eq_getElem hj] at e
  have hp := List.pairwise_iff_getElem.1 h
  simp only [Option.getD_some] at e
  rcases Nat.lt_trichotomy i j with q | q | q
  · exact absurd e (hp i j hi hj q)
  · exact q
  · exact absurd e.symm (hp j i hj hi q)

theorem again_all {M : MeshM} (h : Sound M) (s : Nat) :
    allOk (emptyM M.P) (turnL (trisL M.ap M.P.length) s) ∧ (foldM (emptyM M.P) (turnL (trisL M.ap M.P.length) s)).ap = M.ap := by
  have hT := fun x => mem_trisL h.win (x := x)
  have hnd : (trisL M.ap M.P.length).Nodup := by
    refine List.Pairwise.imp ?_ (trisL_sorted M.ap M.P.length)
    rintro a b hlt rfl
    exact ltT_irr _ hlt
  generalize trisL M.ap M.P.length = T at *
  have mem : ∀ u, u ∈ turnL T s ↔ ∃ i, i < T.length ∧ rotT ((i + (i + s) % T.length) % 3) (T.getD ((i + s) % T.length) (0, 0, 0)) = u := by
    intro u; unfold turnL; simp [List.mem_map, List.mem_range]
  have lt : ∀ i, i < T.length → (i + s) % T.length < T.length := fun i hi => Nat.mod_lt _ (by omega)
  have A := again h (turnL T s) [] (emptyM M.P) rfl (fun x y z => ⟨fun e => (nomatch e), by rintro ⟨t, ht, _⟩; simp at ht⟩) (fun t ht => by
    rw [List.nil_append, mem] at ht
    obtain ⟨i, hi, rfl⟩ := ht
    have := (hT _).1 (getD_mem3 (lt i hi))
    refine rot_in h.rot this.1 ((inT_rot ((i + (i + s) % T.length) % 3) _ _ _ _).1 (.inl ⟨rfl, rfl, rfl⟩))) (by
    rw [List.nil_append]
    unfold turnL
    rw [List.pairwise_map]
    refine List.Pairwise.imp_of_mem ?_ (List.pairwise_lt_range (n := T.length))
    intro i j hi hj hij x y z hh
    rw [List.mem_range] at hi hj
    rw [inT_rot, inT_rot] at hh
    have e := canon_eq ((hT _).1 (getD_mem3 (lt i hi))).2 ((hT _).1 (getD_mem3 (lt j hj))).2 hh.1 hh.2
    have := mod_inj hi hj (nodup_getD hnd (lt i hi) (lt j hj) e)
    omega)
  refine ⟨A.1, opt_ext fun x y z => ?_⟩
  rw [A.2, List.nil_append]
  constructor
  · rintro ⟨u, hu, hui⟩
    rw [mem] at hu
    obtain ⟨i, hi, rfl⟩ := hu
    rw [inT_rot] at hui
    exact rot_in h.rot ((hT _).1 (getD_mem3 (lt i hi))).1 hui
  · intro e
    have e1 := h.rot.rot _ _ _ e
    have e2 := h.rot.rot _ _ _ e1
    have hn := h.rot.ne _ _ _ e
    have key : ∃ t, t ∈ T ∧ inT t x y z := by
      by_cases q1 : x < y ∧ x < z
      · exact ⟨(x, y, z), (hT _).2 ⟨e, q1⟩, .inl ⟨rfl, rfl, rfl⟩⟩
      · by_cases q2 : y < z ∧ y < x
        · exact ⟨(y, z, x), (hT _).2 ⟨e1, q2⟩, .inr (.inr ⟨rfl, rfl, rfl⟩)⟩
        · exact ⟨(z, x, y), (hT _).2 ⟨e2, by dsimp only; omega⟩, .inr (.inl ⟨rfl, rfl, rfl⟩)⟩
    obtain ⟨t, ht, hti⟩ := key
    obtain ⟨k, hk, rfl⟩ := List.getElem_of_mem ht
    obtain ⟨i, hi, hik⟩ := mod_onto (s := s) hk
    refine ⟨_, (mem _).2 ⟨i, hi, rfl⟩, ?_⟩
    rw [inT_rot, hik]
    rw [List.getD_eq_getElem?_getD, List.getElem?_eq_getElem hk]
    exact hti

end Go.Proofs.YtdoaniccefdkaaaGreatDoor
