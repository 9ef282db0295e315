/- trivetref16.Corners. -/
import Derived.Test.YtdoaniccefdkaaaGreatDoorQR5
set_option linter.all false
namespace Go.Proofs.YtdoaniccefdkaaaGreatDoor
open Go.RowKit Tvf Go.Maps Go.WideMaps

theorem infoBool : (Tryz.prog.info? 4).map (fun i => (i.zero, i.size, i.bytes)) = some (some (.bool false), 1, 1) := by kernel_rfl

/-- truths in a row that may be written to -/
def BRow (w : World) (g n : Nat) (f : Int → Bool) : Prop := g < w.heap.size ∧ ∀ i : Nat, i < n → w.cell? ⟨g, i, none⟩ = some (.bool (f i)) ∧ w.frozen? ⟨g, i, none⟩ = false
theorem BRow.below {w w' : World} {g n : Nat} {f : Int → Bool} (h : BRow w g n f) (hb : Below w.heap.size w w') : BRow w' g n f :=
  ⟨Nat.lt_of_lt_of_le h.1 hb.size, fun i hi => ⟨(hb.cell (p := ⟨g, i, none⟩) h.1).trans (h.2 i hi).1, (hb.frozen (p := ⟨g, i, none⟩) h.1).trans (h.2 i hi).2⟩⟩
theorem BRow.put {w : World} {g n : Nat} {f : Int → Bool} (h : BRow w g n f) {j : Nat} (hj : j < n) {f' : Int → Bool} (hf : ∀ i : Int, f' i = (f i || decide (i = (j : Int)))) : BRow (w.setCell ⟨g, j, none⟩ (.bool true)) g n f' := by
  refine ⟨by simpa [World.setCell] using h.1, fun i hi => ?_⟩
  have ne : ∀ {a b : Nat}, a ≠ b → (⟨g, a, none⟩ : Addr) ≠ ⟨g, b, none⟩ := fun h e => h (by injection e)
  refine ⟨?_, by rw [World.frozen?_setCell]; exact (h.2 i hi).2⟩
  rw [hf]
  by_cases e : i = j
  · subst e
    rw [World.cell?_setCell_same _ _ _ (h.2 i hi).1]; simp
  · rw [World.cell?_setCell_other _ _ _ _ (ne (fun q => e q.symm)), (h.2 i hi).1, decide_eq_false (by omega), Bool.or_false]
theorem BRow.ext {w : World} {g n : Nat} {f f' : Int → Bool} (h : BRow w g n f) (hf : ∀ i, f' i = f i) : BRow w g n f' := ⟨h.1, fun i hi => by rw [hf]; exact h.2 i hi⟩

def corK (G : List Tri3) (i k : Nat) (j : Int) : Bool := corB (G.take i) j || (List.range k).any fun r => decide (tvT (G.getD i (0, 0, 0)) r = j)
theorem corK_00 (G : List Tri3) (j : Int) : corK G 0 0 j = false := rfl
theorem corK_step (G : List Tri3) (i k : Nat) (j : Int) : corK G i (k + 1) j = (corK G i k j || decide (j = tvT (G.getD i (0, 0, 0)) k)) := by
  unfold corK
  rw [List.range_succ, List.any_append, Bool.or_assoc]
  congr 2
  simp only [List.any_cons, List.any_nil, Bool.or_false]
  exact decide_eq_decide.2 ⟨fun h => h.symm, fun h => h.symm⟩
theorem corK_next {G : List Tri3} {i : Nat} (hi : i < G.length) (j : Int) : corK G (i + 1) 0 j = corK G i 3 j := by
  have e : G.take (i + 1) = G.take i ++ [G.getD i (0, 0, 0)] := by
    rw [List.take_add_one, List.getElem?_eq_getElem hi, List.getD_eq_getElem?_getD, List.getElem?_eq_getElem hi]; rfl
  unfold corK corB
  rw [e, List.any_append]
  simp [List.range, List.range.loop, tvT]
theorem corK_all (G : List Tri3) (j : Int) : corK G G.length 0 j = corB G j := by
  unfold corK
  rw [List.take_length]
  simp

set_option maxRecDepth 100000 in
set_option maxHeartbeats 8000000 in
theorem corners16 {w : World} {n : Nat} (ap : Option Addr) (cp : Nat) {G : List Tri3} {at_ : Option Addr} (ct : Nat) (hg : KCells encT w at_ G) (hr : ∀ t, t ∈ G → ∀ k, k < 3 → 0 ≤ tvT t k ∧ tvT t k < n) (hn : n ≤ 1000) (hG : G.length ≤ 100000) :
    Calls Tryz.prog 126 #[.slice ap n cp, .slice at_ G.length ct] w fun r w' => ∃ g, r = .returned (.slice (some ⟨g, 0, none⟩) n n) ∧ Hid (BRow w' g n (corB G)) ∧ Below w.heap.size w w' := by
  obtain ⟨i0, hi, hz0, hz1, hz2⟩ := info_parts infoBool
  have HC : Hid (∀ W i k, Below w.heap.size w W → i < G.length → k < 3 → ∃ b, at_ = some ⟨b, 0, none⟩ ∧ W.cell? ⟨b, i * 3 + k, none⟩ = some (.int .i64 (tvT (G.getD i (0, 0, 0)) k))) := fun W i k hb hi hk => by
    obtain ⟨b, e, _, x0, x1, x2⟩ := (hg.below hb).tri hi
    refine ⟨b, e, ?_⟩
    have h4 : k = 0 ∨ k = 1 ∨ k = 2 := by omega
    rcases h4 with rfl | rfl | rfl
    · exact x0
    · exact x1
    · exact x2
  have HR : Hid (∀ i k, i < G.length → k < 3 → ∃ j : Nat, tvT (G.getD i (0, 0, 0)) k = j ∧ j < n) := fun i k hi hk => by
    have hm : G.getD i (0, 0, 0) ∈ G := by rw [List.getD_eq_getElem?_getD, List.getElem?_eq_getElem hi]; exact List.getElem_mem hi
    have := hr _ hm k hk
    exact ⟨(tvT (G.getD i (0, 0, 0)) k).toNat, by omega, by omega⟩
  have HN : Hid (n ≤ 1000 ∧ G.length ≤ 100000) := ⟨hn, hG⟩
  have HST := Lib.hid (fun i k j => corK_step G i k j)
  have HNX := Lib.hid (fun i (hi : i < G.length) j => corK_next hi j)
  clear hg hr hn hG
  go_enter Tryz.func126, Tryz.ntmps126
  go_wp2_with (at_make; refine wpList_make_full _ rfl _ _ 177 rfl 0 4 i0 (.bool false) 1 Tryz.underlying177 hi hz0 hz1 .i64 .i64 _ _ n rfl rfl rfl rfl ?b2 ?b3 (Nat.zero_le _) ?_)
  case b2 => rw [hz2]; have := HN.out; omega
  case b3 => have := HN.out; unfold maxLen; omega
  intro w7 hown hgrow
  have HB7 : Hid (Below w.heap.size w w7) := ⟨hgrow.os, hgrow.tape, hgrow.output, hgrow.size, fun i hi => hgrow.block i hi (by simp)⟩
  have HC7 : Hid (BRow w7 w.heap.size n (corK G 0 0)) := by
    refine ⟨(hown.lt _ rfl).2, fun v hv => ⟨?_, owns_frozen hown v⟩⟩
    rw [hown.cellAt v (by omega)]
    show (madeCells #[.bool false] n).toList[v]? = _
    rw [toList_madeCells_one, List.getElem?_replicate, if_pos hv]
    rfl
  clear hown hgrow
  go_wp2
  go_loopw [6] (fun s6 wr => ∃ i : Nat, i ≤ G.length ∧ s6 = .int .i64 i ∧ Hid (BRow wr w.heap.size n (corK G i 0)) ∧ Hid (Below w.heap.size w wr)) (fun s6 _ => G.length - (intOf s6).toNat)
  case atStart => exact ⟨0, Nat.zero_le _, rfl, HC7.out, HB7.out⟩
  case round =>
    obtain ⟨i, hiG, rfl, HB, HW⟩ := hrel
    by_cases hlt : i < G.length
    · have hz : (i : Int) < (G.length : Int) := by omega
      have hi0 : (0 : Int) ≤ (i : Int) := by omega
      have hw1 : wrap64 ((i : Int) + 1) = (i : Int) + 1 := by have := HN.out; unfold wrap64; omega
      go_wp2
      go_loopw [7] (fun s7 wy => ∃ k : Nat, k ≤ 3 ∧ s7 = .int .i64 k ∧ Hid (BRow wy w.heap.size n (corK G i k)) ∧ Hid (Below w.heap.size w wy)) (fun s7 _ => 3 - (intOf s7).toNat)
      case atStart => exact ⟨0, by omega, rfl, HB.out, HW.out⟩
      case round =>
        obtain ⟨k, hk, rfl, HBK, HWK⟩ := hrel
        by_cases hk3 : k < 3
        · have hkz : (k : Int) < 3 := by omega
          have hk0 : (0 : Int) ≤ (k : Int) := by omega
          obtain ⟨b, rfl, x0⟩ := HC.out _ i k HWK.out hlt hk3
          obtain ⟨j, hj, hjn⟩ := HR.out i k hlt hk3
          have HSJ := Lib.hid (fun z => HST.out i k z)
          rw [hj] at x0 HSJ
          have hw2 : wrap64 ((k : Int) + 1) = (k : Int) + 1 := by unfold wrap64; omega
          have hj0 : (0 : Int) ≤ (j : Int) := by omega
          have hj1 : (j : Int) < (n : Int) := by omega
          have f0 := (HBK.out.2 j hjn).2
          have y0 := (HBK.out.2 j hjn).1
          have HB2 := Lib.hid (HBK.out.put hjn (f' := corK G i (k + 1)) HSJ.out)
          have HW2 := Lib.hid (HWK.out.setCell (p := ⟨w.heap.size, j, none⟩) (Nat.le_refl _) (.bool true))
          clear hj
          go_wp2
          go_roundw
          case rel => exact ⟨k + 1, by omega, by (try rw [hw2]); rfl, HB2.out, HW2.out⟩
          case measure => (try rw [hw2]); simp only [intOf]; omega
        · have e : k = 3 := by omega
          subst e
          have HB3 := Lib.hid (HBK.out.ext (fun z => HNX.out i hlt z))
          go_wp2
          go_roundw
          case rel => exact ⟨i + 1, by omega, by (try rw [hw1]); rfl, HB3.out, HWK.out⟩
          case measure => (try rw [hw1]); simp only [intOf]; omega
    · have e : i = G.length := by omega
      subst e
      have hz : ¬(G.length : Int) < (G.length : Int) := by omega
      go_wp2
      go_ret
      exact ⟨_, rfl, HB.out.ext (fun z => (corK_all G z).symm), HW.out⟩

end Go.Proofs.YtdoaniccefdkaaaGreatDoor
