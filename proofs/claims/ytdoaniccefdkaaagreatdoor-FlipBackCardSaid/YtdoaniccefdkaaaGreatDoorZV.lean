/- Part of the proof. No conditions. -/
import Derived.Test.YtdoaniccefdkaaaGreatDoorZU
import Derived.Deep.AppendLies

set_option linter.all false
/- trivetref15.Make. -/
namespace Go.Proofs.YtdoaniccefdkaaaGreatDoor
open Go.RowKit Tvf Go.Maps Go.WideMaps

section
variable {w wr w2 w' : World} {B xb : Nat} {P : List Pt} {ad : Option Addr} {cap : Nat} {T T' : List Tri3} {vT v : Value} {S S' : List Seg3} {vS : Value}
theorem heap_set_ne {w : World} {b i j : Nat} {v : Value} (h : i ≠ b) : (w.setCell ⟨b, j, none⟩ v).heap[i]? = w.heap[i]? := Below.heap_setCell w ⟨b, j, none⟩ v i h
theorem size_set {w : World} {p : Addr} {v : Value} : (w.setCell p v).heap.size = w.heap.size := by simp [World.setCell]
/-- a new row of segments, laid into the mesh -/
theorem RMs.newS (h : RMs w B xb P ad cap T vT S vS) (hb : Below w.heap.size w wr) (ho : wr.ownsRow w.heap.size 141 3 v S'.length (cellsK encS S')) :
    RMs (wr.setCell ⟨xb, 2, none⟩ v) B xb P ad cap T vT S' v ∧ Stay (fun i => i = xb) w (wr.setCell ⟨xb, 2, none⟩ v) := by
  have h1 := h.below hb
  have hx : xb < w.heap.size := h.box.lt
  have hlt : ∀ g, v.ownBlock = some g → w.heap.size ≤ g ∧ g < wr.heap.size := fun g e => ho.lt g e
  have hT : ∀ g, vT.ownBlock = some g → g < w.heap.size := fun g e => (h.tri.lt g e).2
  refine ⟨⟨h1.box.set2 v, h1.pts.block (Nat.le_of_eq size_set.symm) (fun g e _ => heap_set_ne (h.px g e)), ownsRow_same h1.tri (fun g e => heap_set_ne (fun q => h.tx (by rw [e, q]))), ownsRow_down h.bB (ownsRow_same ho (fun g e => heap_set_ne (fun q => by have := (hlt g e).1; omega))), h.px, h.pt, fun g e q => by have := h.pl g e; have := (hlt _ q).1; omega, h.tx, fun q => by have := (hlt xb q).1; omega, fun b e q => by have := hT b e; have := (hlt b q).1; omega, by rw [size_set]; exact h1.bB, by rw [size_set]; exact h1.pl⟩,
    ⟨hb.os, hb.tape, hb.output, by rw [size_set]; exact hb.size, fun i hi hne => (heap_set_ne hne).trans (hb.block i hi)⟩⟩
/-- a row of triangles that has grown, laid into the mesh -/
theorem RMs.newT (h : RMs w B xb P ad cap T vT S vS) {o : Obj} (hg : (w.alloc o).grownBy w2 vT.ownBlock) {g c n : Nat} (hn : n = T'.length) (ho : w2.ownsRow B 45 3 (.slice (some ⟨g, 0, none⟩) n c) n (cellsK encT T')) (hat : vT.ownBlock = some g ∨ g = w.heap.size + 1) :
    RMs (w2.setCell ⟨xb, 1, none⟩ (.slice (some ⟨g, 0, none⟩) n c)) B xb P ad cap T' (.slice (some ⟨g, 0, none⟩) n c) S vS ∧ Stay (fun i => RB xb ad vT vS i) w (w2.setCell ⟨xb, 1, none⟩ (.slice (some ⟨g, 0, none⟩) n c)) := by
  have hx : xb < w.heap.size := h.box.lt
  have hal : Below w.heap.size w (w.alloc o) := (Below.refl _ _).alloc (Nat.le_refl _) _
  have hsz : (w.alloc o).heap.size = w.heap.size + 1 := by simp
  have h1 := h.below hal
  have keep : ∀ i, i < w.heap.size → vT.ownBlock ≠ some i → w2.heap[i]? = w.heap[i]? := fun i hi hne => (hg.block i (by omega) (fun e => hne e.symm)).trans (hal.block i hi)
  have hs2 : w.heap.size ≤ w2.heap.size := Nat.le_trans hal.size hg.size
  have gx : g ≠ xb := fun e => by
    subst e
    rcases hat with e | e
    · exact h.tx e
    · omega
  have gp : ∀ a, ad = some a → g ≠ a.block := fun a e q => by
    rcases hat with e2 | e2
    · exact h.pt a e (by rw [e2, q])
    · have := h.pl a e; omega
  have gs : vS.ownBlock ≠ some g := fun e => by
    rcases hat with e2 | e2
    · exact h.ts g e2 e
    · have := (h.seg.lt g e).2; omega
  subst hn
  refine ⟨⟨?_, ?_, ownsRow_same ho (fun i e => by simp [Value.ownBlock] at e; subst e; exact heap_set_ne gx), ownsRow_same h.seg (fun i e => (heap_set_ne (fun q => h.sx (by rw [e, q]))).trans (keep i (h.seg.lt i e).2 (fun q => h.ts i q e))), h.px, fun a e q => by simp [Value.ownBlock] at q; exact gp a e q, h.ps, fun q => by simp [Value.ownBlock] at q; exact gx q, h.sx, fun b e q => by simp [Value.ownBlock] at e; subst e; exact gs q, by rw [size_set]; exact Nat.le_trans h.bB hs2, fun a e => by rw [size_set]; exact Nat.lt_of_lt_of_le (h.pl a e) hs2⟩,
    ⟨hg.os.trans hal.os, hg.tape.trans hal.tape, hg.output.trans hal.output, by rw [size_set]; exact hs2, fun i hi hne => (heap_set_ne (fun q => hne (.inl q))).trans (keep i hi (fun q => hne (.inr (.inr (.inl q)))))⟩⟩
  · exact Box3.set1 ((keep xb hx h.tx).trans h.box) _
  · exact h.pts.block (by rw [size_set]; exact hs2) (fun a e hl => (heap_set_ne (h.px a e)).trans (keep _ hl (h.pt a e)))
end

theorem infoSeg : (Tryz.prog.info? 141).map (fun i => (i.zero, i.size, i.bytes)) = some (some (.agg #[.int .i64 0, .int .i64 0, .int .i64 0]), 3, 24) := by kernel_rfl
theorem hasP_nat {P : List Pt} {i : Int} (h : hasP P i = true) : ∃ x : Nat, i = x ∧ x < P.length := by
  unfold hasP at h
  rw [Bool.and_eq_true, decide_eq_true_eq, decide_eq_true_eq] at h
  exact ⟨i.toNat, by omega, by omega⟩
theorem mkCode_no {P : List Pt} {T : List Tri3} {a b c : Int} (h : ¬(hasP P a && (hasP P b && hasP P c)) = true) : mkCode P T a b c = 11 := by
  unfold mkCode; rw [if_pos (by simpa using h)]
theorem mkR_no {P : List Pt} {T : List Tri3} {a b c : Int} {k : Int} (h : mkCode P T a b c = k) (hk : k ≠ 0) : mkR P T a b c = T := by unfold mkR; rw [h, if_neg hk]

set_option maxRecDepth 100000 in
set_option maxHeartbeats 8000000 in
theorem make15s {w : World} {B xb : Nat} {P : List Pt} {ad : Option Addr} {cap : Nat} {T : List Tri3} {vT : Value} {S : List Seg3} {vS : Value} (h : RMs w B xb P ad cap T vT S vS) (h64 : ∀ p, p ∈ P → pt64 p) (hT : T.length ≤ 1000000) (a b c : Int) :
    Calls Tryz.prog 25 #[.pointer (some ⟨xb, 0, none⟩), .int .i64 a, .int .i64 b, .int .i64 c] w fun r w' => r = .returned (.int .i64 (mkCode P T a b c)) ∧ ∃ vT', RMs w' B xb P ad cap (mkR P T a b c) vT' S vS ∧ Stay (RB xb ad vT vS) w w' ∧ (∀ i, vT'.ownBlock = some i → vT.ownBlock = some i ∨ w.heap.size ≤ i) := by
  have HA := Lib.hid (has15 h a)
  have HB := Lib.hid (has15 h b)
  have HC := Lib.hid (has15 h c)
  have HM := Lib.hid h
  by_cases hh : (hasP P a && (hasP P b && hasP P c)) = true
  · have h1 : hasP P a = true ∧ hasP P b = true ∧ hasP P c = true := by simpa [Bool.and_eq_true] using hh
    obtain ⟨x, rfl, hx⟩ := hasP_nat h1.1
    obtain ⟨y, rfl, hy⟩ := hasP_nat h1.2.1
    obtain ⟨z, rfl, hz⟩ := hasP_nat h1.2.2
    rw [h1.1] at HA
    rw [h1.2.1] at HB
    rw [h1.2.2] at HC
    obtain ⟨b0, off, rfl, hlt, hc⟩ := h.pts (by omega)
    have hm : ∀ i, i < P.length → pt64 (ptP P (i : Nat)) := fun i hi => h64 _ (by unfold ptP; rw [Int.toNat_natCast]; exact getD_memP hi)
    have HL := Lib.hid (fun W => left05 (hm x hx) (hm y hy) (hm z hz) W)
    have HAX : Hid (∀ W i j, Below w.heap.size w W → Calls Tryz.prog 74 #[.pointer (some ⟨xb, 0, none⟩), .int .i64 i, .int .i64 j] W fun r w' => r = .returned (.tuple #[.int .i64 ((apR T i j).getD 0), .bool (apR T i j).isSome]) ∧ w' = W) := fun W i j hb => apex15 (h.below hb) hT i j
    have HN : Hid (∀ W, Below w.heap.size w W → W.cell? ⟨xb, 0, none⟩ = some (.slice (some ⟨b0, off, none⟩) P.length cap) ∧ W.cell? ⟨b0, off + x * 2, none⟩ = some (.float .f64 (ptP P x).1) ∧ W.cell? ⟨b0, off + x * 2 + 1, none⟩ = some (.float .f64 (ptP P x).2) ∧ W.cell? ⟨b0, off + y * 2, none⟩ = some (.float .f64 (ptP P y).1) ∧ W.cell? ⟨b0, off + y * 2 + 1, none⟩ = some (.float .f64 (ptP P y).2) ∧ W.cell? ⟨b0, off + z * 2, none⟩ = some (.float .f64 (ptP P z).1) ∧ W.cell? ⟨b0, off + z * 2 + 1, none⟩ = some (.float .f64 (ptP P z).2)) := fun W hb =>
      ⟨cell_keep h.cells.1 hb, cell_keep (hc x hx).1 hb, cell_keep (hc x hx).2 hb, cell_keep (hc y hy).1 hb, cell_keep (hc y hy).2 hb, cell_keep (hc z hz).1 hb, cell_keep (hc z hz).2 hb⟩
    have hx0 : (0 : Int) ≤ (x : Int) := by omega
    have hy0 : (0 : Int) ≤ (y : Int) := by omega
    have hz0 : (0 : Int) ≤ (z : Int) := by omega
    have hx1 : (x : Int) < (P.length : Int) := by omega
    have hy1 : (y : Int) < (P.length : Int) := by omega
    have hz1 : (z : Int) < (P.length : Int) := by omega
    have hcode : mkCode P T x y z = if signI (ptP P x) (ptP P y) (ptP P z) ≤ 0 then 14 else if ((apR T x y).isSome || ((apR T y z).isSome || (apR T z x).isSome)) = true then 14 else 0 := by
      unfold mkCode; rw [if_neg (by simpa using hh)]
    have HT := Lib.hid hT
    have n0 := HN.out w.drew (Below.refl _ _).drew
    clear h h64 hT hh h1 hlt hc hm
    unfold V at HL
    generalize signI (ptP P x) (ptP P y) (ptP P z) = s at *
    generalize (ptP P x).1 = px at *
    generalize (ptP P x).2 = px' at *
    generalize (ptP P y).1 = py at *
    generalize (ptP P y).2 = py' at *
    generalize (ptP P z).1 = pz at *
    generalize (ptP P z).2 = pz' at *
    go_enter Tryz.func25, Tryz.ntmps25
    go_wp2_with (first
      | (go_at_call 72; (with_reducible refine HA.out.mono ?_); rintro r w1 ⟨rfl, hw1⟩; obtain rfl := hw1.symm)
      | (go_at_call 72; (with_reducible refine HB.out.mono ?_); rintro r w1 ⟨rfl, hw1⟩; obtain rfl := hw1.symm)
      | (go_at_call 72; (with_reducible refine HC.out.mono ?_); rintro r w1 ⟨rfl, hw1⟩; obtain rfl := hw1.symm))
    go_region_held3 (fun W => W.cell? ⟨xb, 0, none⟩ = some (.slice (some ⟨b0, off, none⟩) P.length cap) ∧ W.cell? ⟨b0, off + x * 2, none⟩ = some (.float .f64 px) ∧ W.cell? ⟨b0, off + x * 2 + 1, none⟩ = some (.float .f64 px') ∧ W.cell? ⟨b0, off + y * 2, none⟩ = some (.float .f64 py) ∧ W.cell? ⟨b0, off + y * 2 + 1, none⟩ = some (.float .f64 py') ∧ W.cell? ⟨b0, off + z * 2, none⟩ = some (.float .f64 pz) ∧ W.cell? ⟨b0, off + z * 2 + 1, none⟩ = some (.float .f64 pz'))
      (first | with_reducible exact n0 | with_reducible exact n1)
      (first | (go_at_call 73; (with_reducible refine (HL.out _).mono ?_); rintro r w1 ⟨rfl, hb1'⟩; have hb1 : Below w.heap.size w w1 := (Below.refl w.heap.size w).drew.trans hb1'; have n1 := HN.out w1 hb1))
    clear n0 n1 hb1' HN HL
    have HB1 := Lib.hid hb1
    have HM1 := Lib.hid (HM.out.below hb1)
    clear hb1
    by_cases hs : s ≤ 0
    · rw [if_pos hs] at hcode
      have HCD := Lib.hid hcode
      clear hcode
      go_wp2
      go_ret
      rw [HCD.out, mkR_no HCD.out (by decide)]
      exact ⟨rfl, vT, HM1.out, Stay.of_below HB1.out, fun i e => .inl e⟩
    · rw [if_neg hs] at hcode
      have HX1 := Lib.hid (HAX.out w1 x y HB1.out)
      have HX2 := Lib.hid (HAX.out w1 y z HB1.out)
      have HX3 := Lib.hid (HAX.out w1 z x HB1.out)
      have HCD := Lib.hid hcode
      clear hcode HAX
      generalize (apR T x y).isSome = p at *
      generalize (apR T y z).isSome = q at *
      generalize (apR T z x).isSome = r at *
      generalize (apR T x y).getD 0 = p' at *
      generalize (apR T y z).getD 0 = q' at *
      generalize (apR T z x).getD 0 = r' at *
      have h4 : p = true ∨ (p = false ∧ q = true) ∨ (p = false ∧ q = false ∧ r = true) ∨ (p = false ∧ q = false ∧ r = false) := by cases p <;> cases q <;> cases r <;> simp
      rcases h4 with rfl | ⟨rfl, rfl⟩ | ⟨rfl, rfl, rfl⟩ | ⟨rfl, rfl, rfl⟩
      iterate 3
        · have HC2 : Hid (mkCode P T x y z = 14) := by unfold Hid; rw [HCD.out]; simp
          go_wp2_with (first
            | (go_at_call 74; (with_reducible refine HX1.out.mono ?_); rintro r w2 ⟨rfl, hw2⟩; obtain rfl := hw2.symm)
            | (go_at_call 74; (with_reducible refine HX2.out.mono ?_); rintro r w2 ⟨rfl, hw2⟩; obtain rfl := hw2.symm)
            | (go_at_call 74; (with_reducible refine HX3.out.mono ?_); rintro r w2 ⟨rfl, hw2⟩; obtain rfl := hw2.symm))
          go_ret
          rw [HC2.out, mkR_no HC2.out (by decide)]
          exact ⟨rfl, vT, HM1.out, Stay.of_below HB1.out, fun i e => .inl e⟩
      · have HC2 : Hid (mkCode P T x y z = 0) := by unfold Hid; rw [HCD.out]; rfl
        obtain ⟨i0, hi, hz0', hz1', hz2'⟩ := info_parts infoTri
        obtain ⟨gT, cT, hv⟩ : ∃ gT cT, vT = .slice gT T.length cT := by
          rcases HM1.out.tri.2 with ⟨h0, h1⟩ | ⟨g, c, cur, h0, _⟩
          · exact ⟨none, 0, by rw [h1]; exact h0⟩
          · exact ⟨_, _, h0⟩
        subst hv
        have HBX := Lib.hid (HM1.out.box.al (.cells #[.int .i64 x, .int .i64 y, .int .i64 z] 45))
        obtain ⟨c0, c1, c2⟩ := HBX.out.c
        obtain ⟨d0, d1, d2⟩ := HM1.out.box.c
        go_wp2_with (first
          | (go_at_call 74; (with_reducible refine HX1.out.mono ?_); rintro r w2 ⟨rfl, hw2⟩; obtain rfl := hw2.symm)
          | (go_at_call 74; (with_reducible refine HX2.out.mono ?_); rintro r w2 ⟨rfl, hw2⟩; obtain rfl := hw2.symm)
          | (go_at_call 74; (with_reducible refine HX3.out.mono ?_); rintro r w2 ⟨rfl, hw2⟩; obtain rfl := hw2.symm)
          | (at_builtin; refine wpList_append_lies _ rfl _ _ 23 rfl B 45 i0 (.agg #[.int .i64 0, .int .i64 0, .int .i64 0]) 3 24 Tryz.underlying23 hi hz0' hz1' hz2' rfl (by decide) _ T.length (cellsK encT T) rfl (HM1.out.tri.alloc _) ⟨w1.heap.size, 0, none⟩ 1 1 (encT (x, y, z)) rfl ?qc1 ?qc2 ?qc3 (by decide) ?qc4 ?qc5 ?qc6 (w1.heap.size + 1) (by simp) ?_))
        case qc1 => rfl
        case qc2 => exact cells_new w1 (encT (x, y, z)) 45
        case qc3 => exact encT_one _
        case qc4 => have := HT.out; unfold maxLen; omega
        case qc5 => have := HT.out; omega
        case qc6 => have := HM1.out.bB; simp; omega
        intro g cg w2 hown hgrow hat hlt
        clear c0 c1 c2 d0 d1 d2
        have HB2 := Lib.hid (HBX.out.grown hgrow HM1.out.tx)
        obtain ⟨c0, c1, c2⟩ := HB2.out.c
        have f1 := HB2.out.fz 1
        have HS := Lib.hid (HM1.out.newT (T' := T ++ [((x : Int), (y : Int), (z : Int))]) (n := T.length + 1) hgrow (by simp) (by rw [cellsK_append, cellsK_one]; exact hown) hat)
        have HAT := Lib.hid hat
        clear hown hgrow hat hlt
        go_wp2
        go_ret
        obtain ⟨h1, h2⟩ := HS.out
        rw [HC2.out, show mkR P T x y z = T ++ [((x : Int), (y : Int), (z : Int))] by unfold mkR; rw [HC2.out]; rfl]
        refine ⟨rfl, _, h1, (Stay.of_below HB1.out).trans (h2.mono (fun i e => .inl e)), fun i e => ?_⟩
        simp [Value.ownBlock] at e
        subst e
        rcases HAT.out with e | e
        · exact .inl e
        · right; have := HB1.out.size; omega
  · have hcode := mkCode_no (T := T) hh
    rw [hcode, mkR_no hcode (by decide)]
    clear hcode
    generalize hasP P a = oa at *
    generalize hasP P b = ob at *
    generalize hasP P c = oc at *
    have h3 : oa = false ∨ (oa = true ∧ ob = false) ∨ (oa = true ∧ ob = true ∧ oc = false) := by cases oa <;> cases ob <;> cases oc <;> simp at hh ⊢
    clear hh h h64 hT
    rcases h3 with rfl | ⟨rfl, rfl⟩ | ⟨rfl, rfl, rfl⟩
    all_goals
      go_enter Tryz.func25, Tryz.ntmps25
      go_wp2_with (first
        | (go_at_call 72; (with_reducible refine HA.out.mono ?_); rintro r w1 ⟨rfl, rfl⟩)
        | (go_at_call 72; (with_reducible refine HB.out.mono ?_); rintro r w1 ⟨rfl, rfl⟩)
        | (go_at_call 72; (with_reducible refine HC.out.mono ?_); rintro r w1 ⟨rfl, rfl⟩))
      go_ret
      exact ⟨rfl, vT, HM.out, Stay.refl _ _, fun i e => .inl e⟩

end Go.Proofs.YtdoaniccefdkaaaGreatDoor

/- trivetref15.Loose. -/
namespace Go.Proofs.YtdoaniccefdkaaaGreatDoor
open Go.RowKit Tvf Go.Maps Go.WideMaps

theorem minI_min (a b : Int) : minI a b = min a b := by unfold minI; rw [Int.min_def]
theorem maxI_max (a b : Int) : maxI a b = max a b := by unfold maxI; rw [Int.max_def]
/-- the marks without one edge's -/
def keepS (u t : Int) (s : Seg3) : Bool := !(decide (s.1 = u) && decide (s.2.1 = t))
def looseL (S : List Seg3) (u t : Int) : List Seg3 := S.filter (keepS u t)

theorem seg_cells {w : World} {B : Nat} {g cap : Nat} {T : List Seg3} (h : w.ownsRow B 141 3 (.slice (some ⟨g, 0, none⟩) T.length cap) T.length (cellsK encS T)) {i : Nat} (hi : i < T.length) :
    w.cell? ⟨g, i * 3, none⟩ = some (.int .i64 (T.getD i (0, 0, 0)).1) ∧ w.cell? ⟨g, i * 3 + 1, none⟩ = some (.int .i64 (T.getD i (0, 0, 0)).2.1) ∧ w.cell? ⟨g, i * 3 + 2, none⟩ = some (.int .i64 (T.getD i (0, 0, 0)).2.2) := by
  have e : T.getD i (0, 0, 0) = T[i] := by rw [List.getD_eq_getElem?_getD, List.getElem?_eq_getElem hi]; rfl
  have hk : ∀ x : Seg3, (encS x).length = 3 := fun _ => rfl
  rw [e, h.cellAt (i * 3) (by omega), h.cellAt (i * 3 + 1) (by omega), h.cellAt (i * 3 + 2) (by omega)]
  have h0 := cellsK_at hk T i hi 0 (by omega)
  rw [Nat.add_zero] at h0
  exact ⟨h0, cellsK_at hk T i hi 1 (by omega), cellsK_at hk T i hi 2 (by omega)⟩

/-- a new row of segments beside what was there -/
structure SR (w wr : World) (v : Value) (L : List Seg3) : Prop where
  own : wr.ownsRow w.heap.size 141 3 v L.length (cellsK encS L)
  low : Below w.heap.size w wr
theorem SR.nil (w : World) : SR w w (.slice none 0 0) [] := ⟨World.ownsRow_nil _ _ _ _, Below.refl _ _⟩
theorem SR.grow {w wr wa w2 : World} {v v' : Value} {L L' : List Seg3} {n : Nat} (h : SR w wr v L) (ha : Below wr.heap.size wr wa) (hg : wa.grownBy w2 v.ownBlock) (hn : n = L'.length) (ho : w2.ownsRow w.heap.size 141 3 v' n (cellsK encS L')) : SR w w2 v' L' := by
  subst hn
  have hb : Below w.heap.size w wa := h.low.trans (ha.mono h.low.size)
  exact ⟨ho, hb.grown hg hb.size (fun k hk => (h.own.lt k hk).1)⟩
theorem SR.form {w wr : World} {v : Value} {L : List Seg3} (h : SR w wr v L) : ∃ g c, v = .slice g L.length c := by
  rcases h.own.2 with ⟨h0, h1⟩ | ⟨g, c, cur, h0, _⟩
  · exact ⟨none, 0, by rw [h1]; exact h0⟩
  · exact ⟨_, _, h0⟩

theorem loose_take {S : List Seg3} {u t : Int} {i : Nat} (hi : i < S.length) : looseL (S.take (i + 1)) u t = looseL (S.take i) u t ++ (if keepS u t (S.getD i (0, 0, 0)) = true then [S.getD i (0, 0, 0)] else []) := by
  unfold looseL
  rw [List.take_add_one, List.filter_append, List.getElem?_eq_getElem hi, List.getD_eq_getElem?_getD, List.getElem?_eq_getElem hi]
  simp only [Option.toList_some, Option.getD_some, List.filter_cons, List.filter_nil]

set_option maxRecDepth 100000 in
set_option maxHeartbeats 4000000 in
theorem loose15 {w : World} {B xb : Nat} {P : List Pt} {ad : Option Addr} {cap : Nat} {T : List Tri3} {vT : Value} {S : List Seg3} {vS : Value} (h : RMs w B xb P ad cap T vT S vS) (hS : S.length ≤ 1000000) (a b : Int) :
    Calls Tryz.prog 36 #[.pointer (some ⟨xb, 0, none⟩), .int .i64 a, .int .i64 b] w fun r w' => (∃ q, r = .returned (.bool q)) ∧ ∃ vS', RMs w' B xb P ad cap T vT (looseL S (minI a b) (maxI a b)) vS' ∧ Stay (fun i => i = xb) w w' ∧ (∀ i, vS'.ownBlock = some i → w.heap.size ≤ i) := by
  obtain ⟨i0, hi, hz0', hz1', hz2'⟩ := info_parts infoSeg
  have HM := Lib.hid h
  have HSL := Lib.hid hS
  obtain ⟨g, cp, n, hv, hn⟩ : ∃ g cp n, vS = .slice g n cp ∧ n = S.length := by
    rcases h.seg.2 with ⟨rfl, h0⟩ | ⟨g, cp, cur, rfl, _⟩
    · exact ⟨none, 0, 0, rfl, h0.symm⟩
    · exact ⟨_, _, _, rfl, rfl⟩
  subst hv
  have HG : Hid (∀ i W, i < n → Below w.heap.size w W → ∃ b, g = some ⟨b, 0, none⟩ ∧ W.cell? ⟨b, i * 3, none⟩ = some (.int .i64 (S.getD i (0, 0, 0)).1) ∧ W.cell? ⟨b, i * 3 + 1, none⟩ = some (.int .i64 (S.getD i (0, 0, 0)).2.1) ∧ W.cell? ⟨b, i * 3 + 2, none⟩ = some (.int .i64 (S.getD i (0, 0, 0)).2.2)) := fun i W hi hb => by
    have ho := h.seg
    rcases ho.2 with ⟨_, h0⟩ | ⟨b, cp', cur, e, _⟩
    · omega
    · cases e
      obtain ⟨x0, x1, x2⟩ := seg_cells ho (i := i) (by omega)
      exact ⟨b, rfl, cell_keep x0 hb, cell_keep x1 hb, cell_keep x2 hb⟩
  have HX : Hid (∀ W, Below w.heap.size w W → W.cell? ⟨xb, 2, none⟩ = some (.slice g n cp)) := fun W hb => cell_keep h.cells.2.2 hb
  have HN := Lib.hid hn
  have c2 := HX.out w (Below.refl _ _)
  clear h hS hn
  rw [minI_min, maxI_max]
  generalize hu : min a b = u
  generalize ht : max a b = t
  go_enter Tryz.func36, Tryz.ntmps36
  go_wp2
  go_loopw [7, 8] (fun s7 s8 wr => ∃ i : Nat, i ≤ n ∧ s8 = .int .i64 i ∧ Hid (SR w wr s7 (looseL (S.take i) u t))) (fun _ s8 _ => n - (intOf s8).toNat)
  case atStart => exact ⟨0, Nat.zero_le _, rfl, SR.nil w⟩
  case round =>
    clear c2
    obtain ⟨i, hin, rfl, HR⟩ := hrel
    have c2 := HX.out _ HR.out.low
    obtain ⟨gl, cl, hv⟩ := HR.out.form
    subst hv
    by_cases hlt : i < n
    · obtain ⟨bb, rfl, x0, x1, x2⟩ := HG.out i _ hlt HR.out.low
      have hz : (i : Int) < (n : Int) := by omega
      have hi0 : (0 : Int) ≤ (i : Int) := by omega
      have hw1 : wrap64 ((i : Int) + 1) = (i : Int) + 1 := by have := HSL.out; have := HN.out; unfold wrap64; omega
      have HTK := Lib.hid (loose_take (S := S) (u := u) (t := t) (i := i) (by have := HN.out; omega))
      have HKD : Hid (keepS u t (S.getD i (0, 0, 0)) = !(decide ((S.getD i (0, 0, 0)).1 = u) && decide ((S.getD i (0, 0, 0)).2.1 = t))) := rfl
      have HLEN : Hid ((looseL (S.take i) u t).length ≤ 1000000) := by
        unfold Hid looseL
        exact Nat.le_trans (List.length_filter_le _ _) (by rw [List.length_take]; have := HSL.out; omega)
      generalize S.getD i (0, 0, 0) = sg at *
      obtain ⟨s0, s1, s2⟩ := sg
      dsimp only at x0 x1 x2 HKD
      generalize looseL (S.take i) u t = L at *
      have HPU : Hid (∀ g' c' w2, keepS u t (s0, s1, s2) = true → w2.ownsRow w.heap.size 141 3 (.slice (some ⟨g', 0, none⟩) (L.length + 1) c') (L.length + 1) (cellsK encS L ++ encS (s0, s1, s2)) → (World.alloc wr (.cells #[.int .i64 s0, .int .i64 s1, .int .i64 s2] 141)).grownBy w2 (Value.slice gl L.length cl).ownBlock → SR w w2 (.slice (some ⟨g', 0, none⟩) (L.length + 1) c') (looseL (S.take (i + 1)) u t)) := fun g' c' w2 hk ho hg => by
        have e : looseL (S.take (i + 1)) u t = L ++ [(s0, s1, s2)] := by have := HTK.out; rw [if_pos hk] at this; exact this
        rw [e]
        exact HR.out.grow (n := L.length + 1) ((Below.refl _ _).alloc (Nat.le_refl _) _) hg (by simp) (by rw [cellsK_append, cellsK_one]; exact ho)
      by_cases e1 : s0 = u
      · by_cases e2 : s1 = t
        · have HL2 : Hid (looseL (S.take (i + 1)) u t = L) := by unfold Hid; rw [HTK.out, HKD.out, decide_eq_true e1, decide_eq_true e2]; simp
          clear HPU
          go_wp2
          go_roundw
          case rel => exact ⟨i + 1, by omega, by (try rw [hw1]); rfl, by rw [HL2.out]; exact HR.out⟩
          case measure => (try rw [hw1]); simp only [intOf]; omega
        · have HKP : Hid (keepS u t (s0, s1, s2) = true) := by unfold Hid; rw [HKD.out, decide_eq_false e2]; simp
          subst e1
          go_wp2_with (at_builtin; refine wpList_append_lies _ rfl _ _ 24 rfl w.heap.size 141 i0 (.agg #[.int .i64 0, .int .i64 0, .int .i64 0]) 3 24 Tryz.underlying24 hi hz0' hz1' hz2' rfl (by decide) _ L.length (cellsK encS L) rfl (HR.out.own.alloc _) ⟨wr.heap.size, 0, none⟩ 1 1 (encS (s0, s1, s2)) rfl ?qc1 ?qc2 ?qc3 (by decide) ?qc4 ?qc5 ?qc6 (wr.heap.size + 1) (by simp) ?_)
          case qc1 => rfl
          case qc2 => first | exact cells_new wr (encS (s0, s1, s2)) 141 | exact fun _ _ h => h
          case qc3 => exact encS_one _
          case qc4 => have := HLEN.out; unfold maxLen; omega
          case qc5 => have := HLEN.out; omega
          case qc6 => have := HR.out.low.size; simp; omega
          intro g' c' w2 hown hgrow hat hlt2
          have HP2 := Lib.hid (HPU.out g' c' w2 HKP.out hown hgrow)
          clear hown hgrow hat hlt2 HPU
          go_wp2
          go_roundw
          case rel => exact ⟨i + 1, by omega, by (try rw [hw1]); rfl, HP2.out⟩
          case measure => (try rw [hw1]); simp only [intOf]; omega
      · have HKP : Hid (keepS u t (s0, s1, s2) = true) := by unfold Hid; rw [HKD.out, decide_eq_false e1]; simp
        go_wp2_with (at_builtin; refine wpList_append_lies _ rfl _ _ 24 rfl w.heap.size 141 i0 (.agg #[.int .i64 0, .int .i64 0, .int .i64 0]) 3 24 Tryz.underlying24 hi hz0' hz1' hz2' rfl (by decide) _ L.length (cellsK encS L) rfl (HR.out.own.alloc _) ⟨wr.heap.size, 0, none⟩ 1 1 (encS (s0, s1, s2)) rfl ?qc1 ?qc2 ?qc3 (by decide) ?qc4 ?qc5 ?qc6 (wr.heap.size + 1) (by simp) ?_)
        case qc1 => rfl
        case qc2 => first | exact cells_new wr (encS (s0, s1, s2)) 141 | exact fun _ _ h => h
        case qc3 => exact encS_one _
        case qc4 => have := HLEN.out; unfold maxLen; omega
        case qc5 => have := HLEN.out; omega
        case qc6 => have := HR.out.low.size; simp; omega
        intro g' c' w2 hown hgrow hat hlt2
        have HP2 := Lib.hid (HPU.out g' c' w2 HKP.out hown hgrow)
        clear hown hgrow hat hlt2 HPU
        go_wp2
        go_roundw
        case rel => exact ⟨i + 1, by omega, by (try rw [hw1]); rfl, HP2.out⟩
        case measure => (try rw [hw1]); simp only [intOf]; omega
    · have e : i = n := by omega
      subst e
      have hz : ¬(i : Int) < (i : Int) := by omega
      have HNS := Lib.hid (HM.out.newS HR.out.low HR.out.own)
      have HB2 := Lib.hid (HM.out.box.below HR.out.low)
      have f2 := HB2.out.fz 2
      have HE : Hid (looseL (S.take i) u t = looseL S u t) := by unfold Hid; rw [HN.out, List.take_length]
      go_wp2
      go_ret
      obtain ⟨h1, h2⟩ := HNS.out
      rw [HE.out] at h1 h2 ⊢
      refine ⟨?_, _, h1, h2, fun j e => ?_⟩
      · cases decide ((looseL S u t).length < i) <;> simp
      · have hl := HR.out.own.lt j (by rw [HE.out]; exact e)
        exact hl.1

end Go.Proofs.YtdoaniccefdkaaaGreatDoor
