/- (*Mesh).Fixes. -/
import Derived.Test.YtdoaniccefdkaaaGreatDoorZN
import Derived.Test.YtdoaniccefdkaaaGreatDoorQY2
import Derived.Test.YtdoaniccefdkaaaGreatDoorZO
set_option linter.all false
namespace Go.Proofs.YtdoaniccefdkaaaGreatDoor
open Go.RowKit Go.Maps Go.WideMaps

theorem infoSegF : (Tryz.prog.info? 141).map (fun i => (i.zero, i.size, i.bytes)) = some (some (.agg #[.int .i64 0, .int .i64 0, .int .i64 0]), 3, 24) := by kernel_rfl

/-- the marks of a mesh, and a list of them -/
structure FixT (fx : Int → Int → Option Int) (S : List Seg3) : Prop where
  srt : S.Pairwise ltG
  mem : ∀ y, y ∈ S ↔ fx y.1 y.2.1 = some y.2.2
def fixG (fx : Int → Int → Option Int) (x : Int × Int) : Option Seg3 := (fx x.1 x.2).map fun c => (x.1, x.2, c)
theorem fixG_inj {fx : Int → Int → Option Int} (x x' : Int × Int) (y : Seg3) (_ : fx x.1 x.2 ≠ none) (_ : fx x'.1 x'.2 ≠ none) (h1 : fixG fx x = some y) (h2 : fixG fx x' = some y) : x = x' := by
  unfold fixG at h1 h2
  rw [Option.map_eq_some_iff] at h1 h2
  obtain ⟨c, _, e1⟩ := h1
  obtain ⟨d, _, e2⟩ := h2
  rw [← e2, Prod.mk.injEq, Prod.mk.injEq] at e1
  exact Prod.ext e1.1 e1.2.1
theorem fixG_mem {fx : Int → Int → Option Int} {S : List Seg3} (h : FixT fx S) (y : Seg3) : (∃ x : Int × Int, fx x.1 x.2 ≠ none ∧ fixG fx x = some y) ↔ y ∈ S := by
  rw [h.mem]
  unfold fixG
  constructor
  · rintro ⟨x, _, h2⟩
    obtain ⟨c, e1, rfl⟩ := Option.map_eq_some_iff.1 h2
    exact e1
  · intro e
    exact ⟨(y.1, y.2.1), by rw [e]; simp, by rw [e]; rfl⟩
theorem ltG_irr (x : Seg3) : ¬ltG x x := ltP_irr _
theorem ltG_trans (x y z : Seg3) (h1 : ltG x y) (h2 : ltG y z) : ltG x z := ltP_trans _ _ _ h1 h2
theorem fix_sorted {fx : Int → Int → Option Int} {S l : List Seg3} (h : FixT fx S) (hm : ∀ y, y ∈ l ↔ y ∈ S) (hn : l.Nodup) (hs : l.Pairwise fun x y => ¬ltG y x) : l = S := by
  refine pw_unique ltG_irr ltG_trans _ _ ?_ h.srt hm
  have h2 : l.Pairwise fun x y => x ≠ y ∧ ¬ltG y x := List.pairwise_and_iff.2 ⟨hn, hs⟩
  refine List.Pairwise.imp_of_mem ?_ h2
  intro x y hx hy ⟨hne, hlt⟩
  apply Classical.byContradiction
  intro hno
  have e := ltP_tot (x.1, x.2.1) (y.1, y.2.1) hno hlt
  rw [Prod.mk.injEq] at e
  have ex := (h.mem x).1 ((hm x).1 hx)
  have ey := (h.mem y).1 ((hm y).1 hy)
  rw [e.1, e.2, ey, Option.some.injEq] at ex
  exact hne (Prod.ext e.1 (Prod.ext e.2 ex.symm))
theorem fix_short {fx : Int → Int → Option Int} {S L : List Seg3} {lf : Value → Bool} (h : FixT fx S) (hg : GotG fx (fixG fx) lf L) : L.length ≤ S.length := by
  refine nodup_len L S hg.1 fun y hy => ?_
  obtain ⟨x, a, b, _⟩ := (hg.2 y).1 hy
  exact (fixG_mem h y).1 ⟨x, a, b⟩

set_option maxRecDepth 100000 in
set_option maxHeartbeats 2000000 in
theorem fixes_walk {w : World} {mb n : Nat} {M : MeshM} {F : Nat → Prop} (h : MeshAt w mb n M F) {S : List Seg3} (hf : FixT M.fx S) (hl : S.length ≤ 1000000) :
    Calls Tryz.prog 82 #[.pointer (some ⟨mb, 0, none⟩)] w fun r w' => ∃ v, r = .returned v ∧ w'.ownsRow (w.heap.size + 1) 141 3 v S.length (cellsK encS S) ∧ Below w.heap.size w w' := by
  obtain ⟨ba, bs, bf, pv, sv, h⟩ := h
  have c4 := h.c4
  have HF := Lib.hid h.fxm
  have HBA := Lib.hid (h.flt bf h.fbf)
  have HT := Lib.hid hf
  have HL := Lib.hid hl
  clear h hf hl
  obtain ⟨i0, hi, hz0, hz1, hz2⟩ := info_parts infoSegF
  go_enter Tryz.func82, Tryz.ntmps82
  go_wp2_with (at_range; refine wp_range _ rfl _ 113 rfl 117 3 edgeLaw Tryz.underlying113 bf n _ rfl HF.out ?_; intro w0 hrg0 hg0 hs0)
  go_frame
  have HR0 := Lib.hid hrg0
  have HG0 := Lib.hid hg0
  have HS0 := Lib.hid hs0
  clear hrg0 hg0 hs0
  go_loopw [3] (fun s3 wr => ∃ (L : List Seg3) (lf : Value → Bool) (cnt : Nat), Hid (FRange Tryz.prog wr 117 bf w.heap.size n (edgeV M.fx) lf cnt) ∧ Hid (wr.ownsRow (w.heap.size + 1) 141 3 s3 L.length (cellsK encS L)) ∧ Hid (GotG M.fx (fixG M.fx) lf L) ∧ Hid (Below w.heap.size w wr)) (fun _ wr => wr.rangeLeft bf w.heap.size)
  case atStart =>
    refine ⟨[], _, _, HR0.out, World.ownsRow_nil _ _ _ _, GotG.start (fun a b hab => ?_), ?_⟩
    · rw [edgeV_isSome]; exact Option.isSome_iff_ne_none.2 hab
    · exact (Below.refl _ w).grown HG0.out (Nat.le_refl _) (fun j hj => by cases hj)
  case round =>
    obtain ⟨L, lf, cnt, HR, HO, HGO, HB⟩ := hrel
    go_wp2_with (first | (at_next; refine wp_next _ rfl _ rfl 117 edgeLaw (fun x : Int × Int => kE x.1 x.2) vI bf w.heap.size n (edgeV M.fx) (fun key h => edgeV_ne h) (fun key v h => edgeV_val h) lf cnt rfl HR.out ?_ ?_) | go_in)
    · intro hd
      have HM : Hid (∀ y, y ∈ L ↔ y ∈ S) := fun y => (HGO.out.done hd y).trans (fixG_mem HT.out y)
      have HND := Lib.hid HGO.out.1
      have HLS := Lib.hid (fix_short HT.out HGO.out)
      clear hd
      have HSO := Lib.hid (sortedSeg_walk L u3 wr HO.out (by have := HLS.out; have := HL.out; omega))
      go_wp2_with (go_at_call 143; refine HSO.out.mono ?_; rintro r w2 ⟨rfl, l', h1, h2, h3, h4⟩)
      go_ret
      have e : l' = S := fix_sorted HT.out (fun y => h1.mem_iff.trans (HM.out y)) (h1.nodup_iff.2 HND.out) h2
      have el : L.length = S.length := by rw [← e, h1.length_eq]
      refine ⟨_, rfl, ?_, HB.out.grown h4 HB.out.size (fun j hj => by have := (HO.out.lt _ hj).1; omega)⟩
      rw [← el, ← e]
      exact h3
    · intro a b c w1 cnt1 lf1 hlx hfx hl1 hl2 hrg1 hlt1 hg1 hs1 hen
      have HX1 := Lib.hid (edgeV_some hfx)
      have HRG := Lib.hid hrg1
      have HG1 := Lib.hid hg1
      have HLT : Hid (w1.rangeLeft bf w.heap.size < wr.rangeLeft bf w.heap.size) := by unfold Hid; rw [hrg1.left_eq, HR.out.left_eq]; exact hlt1
      have HO1 : Hid (w1.ownsRow (w.heap.size + 1) 141 3 u3 L.length (cellsK encS L)) := HO.out.kept HG1.out (by
        cases hv : u3.ownBlock with
        | none => exact .inl rfl
        | some g => right; intro e; cases e; have := (HO.out.lt _ hv).1; omega)
      have HLX := Lib.hid hlx
      have HL1 := Lib.hid hl1
      have HL2 := Lib.hid hl2
      clear hlx hfx hl1 hl2 hrg1 hlt1 hg1 hs1
      simp only [kE, vI] at hen
      have HLEN : Hid (L.length ≤ 1000000) := by have := fix_short HT.out HGO.out; have := HL.out; unfold Hid; omega
      have HGA : Hid (GotG M.fx (fixG M.fx) lf1 (L ++ [(a, b, c)])) := HGO.out.add fixG_inj (x := (a, b)) (by dsimp only; rw [HX1.out]; simp) HLX.out (by unfold fixG; dsimp only; rw [HX1.out]; rfl) HL1.out HL2.out
      go_wp2_with (first | (at_builtin; refine wpList_append_own _ rfl _ _ 24 rfl (w.heap.size + 1) 141 i0 (.agg #[.int .i64 0, .int .i64 0, .int .i64 0]) 3 24 Tryz.underlying24 hi hz0 hz1 hz2 rfl (by decide) u3 L.length (cellsK encS L) rfl ((HO1.out.alloc _).alloc _) ⟨w1.heap.size + 1, 0, none⟩ 1 1 (encS (a, b, c)) rfl ?qc1 ?qc2 ?qc3 ?qc4 ?qc5 ?qc6 ?_) | go_in)
      case qc1 => rfl
      case qc2 =>
        intro j u hj
        have := cells_new (w1.alloc (.cells #[.int .i64 a, .int .i64 b] 117)) (encS (a, b, c)) 141 j u hj
        simpa [encS] using this
      case qc3 => exact encS_one _
      case qc4 => have := HLEN.out; unfold maxLen; omega
      case qc5 => have := HLEN.out; omega
      case qc6 => have := HB.out.size; have := HG1.out.size; have := (HO1.out); simp; omega
      intro v' w2 hown hgrow hnil
      obtain ⟨f1, f2⟩ := range_round rfl HBA.out (Nat.lt_succ_self _) HB.out HG1.out HRG.out (((Below.refl _ w1).alloc (Nat.le_refl _) _).alloc (by simp) _) HO1.out hgrow
      have HF1 := Lib.hid f1
      have HF2 := Lib.hid f2
      have HOW : Hid (w2.ownsRow (w.heap.size + 1) 141 3 v' (L ++ [(a, b, c)]).length (cellsK encS (L ++ [(a, b, c)]))) := by
        unfold Hid; rw [cellsK_append, cellsK_one, List.length_append]; exact hown
      clear f1 f2 hown hgrow hnil
      go_wp2
      go_roundw
      case rel => exact ⟨L ++ [(a, b, c)], lf1, cnt1, HF1.out, HOW.out, HGA, HF2.out⟩
      case measure => rw [HF1.out.left_eq, ← HRG.out.left_eq]; exact HLT.out

theorem fixes_mb {w : World} {mb n : Nat} {M : MeshM} {F : Nat → Prop} (h : MeshAt w mb n M F) {S : List Seg3} (hf : FixT M.fx S) (hl : S.length ≤ 1000000) :
    Calls Tryz.prog 82 #[.pointer (some ⟨mb, 0, none⟩)] w fun r w' => ∃ ad cap, r = .returned (.slice ad S.length cap) ∧ KCells encS w' ad S ∧ Below w.heap.size w w' := by
  refine (fixes_walk h hf hl).mono ?_
  rintro r w' ⟨v, rfl, ho, hb⟩
  obtain ⟨ad, cap, rfl, hc, hg⟩ := owns_kcells ho
  exact ⟨ad, cap, rfl, hc, hb⟩

end Go.Proofs.YtdoaniccefdkaaaGreatDoor
