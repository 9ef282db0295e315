/- Part of the proof. No conditions. -/
import Derived.Test.YtdoaniccefdkaaaGreatDoorZV
import Derived.Test.YtdoaniccefdkaaaGreatDoorZb

set_option linter.all false
/- trivetref15: Edges. -/
namespace Go.Proofs.YtdoaniccefdkaaaGreatDoor
open Go.RowKit Tvf Go.Maps Go.WideMaps

/-- a mesh's triangles, read as long as its blocks stay -/
theorem RMs.form {w : World} {B xb : Nat} {P : List Pt} {ad : Option Addr} {cap : Nat} {T : List Tri3} {vT : Value} {S : List Seg3} {vS : Value} (h : RMs w B xb P ad cap T vT S vS) : ∃ g cp, vT = .slice g T.length cp ∧ ∀ i, i < T.length → ∃ b, g = some ⟨b, 0, none⟩ := by
  rcases h.tri.2 with ⟨rfl, h0⟩ | ⟨g, cp, cur, rfl, _⟩
  · exact ⟨none, 0, by rw [h0], fun i hi => by omega⟩
  · exact ⟨_, _, rfl, fun i hi => ⟨g, rfl⟩⟩
theorem RMs.tcell {w : World} {B xb : Nat} {P : List Pt} {ad : Option Addr} {cap : Nat} {T : List Tri3} {S : List Seg3} {vS : Value} {g : Option Addr} {cp n : Nat} (h : RMs w B xb P ad cap T (.slice g n cp) S vS) {i k : Nat} (hi : i < T.length) (hk : k < 3) : ∃ b, g = some ⟨b, 0, none⟩ ∧ w.cell? ⟨b, i * 3 + k, none⟩ = some (.int .i64 (tvT (T.getD i (0, 0, 0)) k)) := by
  have ho := h.tri
  rcases ho.2 with ⟨_, h0⟩ | ⟨b, cp', cur, e, _⟩
  · omega
  · cases e
    obtain ⟨x0, x1, x2⟩ := tri_cells ho (i := i) (by omega)
    refine ⟨b, rfl, ?_⟩
    have h4 : k = 0 ∨ k = 1 ∨ k = 2 := by omega
    rcases h4 with rfl | rfl | rfl
    · exact x0
    · exact x1
    · exact x2

theorem PR.pairs {w wr : World} {gl : Option Addr} {cl : Nat} {L : List (Int × Int)} (h : PR w wr (.slice gl L.length cl) L) (hl : L.length ≤ 1000000) :
    Calls Tryz.prog 142 #[.slice gl L.length cl] wr fun r w' => ∃ v L', r = .returned v ∧ Hid (PR w w' v L') ∧ Hid (PSrt L L.length L') := by
  obtain ⟨ad', cap', e, hc, _⟩ := owns_kcells h.own
  cases e
  refine (pairs15 hc hl).mono ?_
  rintro r w' ⟨v, L', rfl, HP, HS⟩
  exact ⟨v, L', rfl, ⟨ownsRow_down h.low.size HP.out.own, h.low.trans (HP.out.low.mono h.low.size)⟩, HS⟩

set_option maxRecDepth 100000 in
set_option maxHeartbeats 4000000 in
theorem edges15 {w : World} {B xb : Nat} {P : List Pt} {ad : Option Addr} {cap : Nat} {T : List Tri3} {vT : Value} {S : List Seg3} {vS : Value} (h : RMs w B xb P ad cap T vT S vS) (hT : T.length ≤ 300000) :
    Calls Tryz.prog 79 #[.pointer (some ⟨xb, 0, none⟩)] w fun r w' => ∃ v L, r = .returned v ∧ Hid (PR w w' v L) ∧ Hid (PSrt (allT edT T) (allT edT T).length L) := by
  obtain ⟨i0, hi, hz0', hz1', hz2'⟩ := info_parts infoPair
  obtain ⟨gt, cp, rfl, hgt⟩ := h.form
  have HGT := Lib.hid hgt
  have HX : Hid (∀ W, Below w.heap.size w W → W.cell? ⟨xb, 1, none⟩ = some (.slice gt T.length cp)) := fun W hb => (h.below hb).cells.2.1
  have HC : Hid (∀ W i k, Below w.heap.size w W → i < T.length → k < 3 → ∃ b, gt = some ⟨b, 0, none⟩ ∧ W.cell? ⟨b, i * 3 + k, none⟩ = some (.int .i64 (tvT (T.getD i (0, 0, 0)) k))) := fun W i k hb hi hk => (h.below hb).tcell hi hk
  have HT := Lib.hid hT
  have HNX := Lib.hid (fun i (hi : i < T.length) => allK_next edT (T := T) hi)
  have HST := Lib.hid (fun i k => allK_step edT T i k)
  have HLN := Lib.hid (fun i k => allK_len edT T i k)
  have hlen2 : ∀ x : Int × Int, (encP x).length = 2 := fun _ => rfl
  clear h hgt hT
  go_enter Tryz.func79, Tryz.ntmps79
  go_wp2
  go_loopw [3, 4] (fun s3 s4 wr => ∃ (i : Nat), i ≤ T.length ∧ s4 = .int .i64 i ∧ Hid (PR w wr s3 (allK edT T i 0))) (fun _ s4 _ => T.length - (intOf s4).toNat)
  case atStart => exact ⟨0, Nat.zero_le _, rfl, PR.nil (Below.refl _ _)⟩
  case round =>
    obtain ⟨i, hiT, rfl, HR⟩ := hrel
    have c1 := HX.out _ HR.out.low
    by_cases hlt : i < T.length
    · have hz : (i : Int) < (T.length : Int) := by omega
      have hw1 : wrap64 ((i : Int) + 1) = (i : Int) + 1 := by have := HT.out; unfold wrap64; omega
      have HNI := Lib.hid (HNX.out i hlt)
      have HSI := Lib.hid (HST.out i)
      have HLI := Lib.hid (HLN.out i)
      obtain ⟨bb, rfl⟩ := HGT.out i hlt
      have HCI := Lib.hid (fun W k hb hk => HC.out W i k hb hlt hk)
      have hi0 : (0 : Int) ≤ (i : Int) := by omega
      clear c1
      have c1 := HX.out _ HR.out.low
      go_wp2
      go_loopw [3, 5] (fun s3 s5 wy => ∃ (k : Nat), k ≤ 3 ∧ s5 = .int .i64 k ∧ Hid (PR w wy s3 (allK edT T i k))) (fun _ s5 _ => 3 - (intOf s5).toNat)
      case atStart => exact ⟨0, by omega, rfl, HR.out⟩
      case round =>
        obtain ⟨k, hk, rfl, HRK⟩ := hrel
        obtain ⟨gl, cl, hv⟩ := HRK.out.form
        subst hv
        by_cases hk3 : k < 3
        · have hkz : (k : Int) < 3 := by omega
          have hk0 : (0 : Int) ≤ (k : Int) := by omega
          have d1 := HX.out _ HRK.out.low
          obtain ⟨_, e1, x0⟩ := HCI.out _ k HRK.out.low hk3
          cases e1
          obtain ⟨_, e1, x1⟩ := HCI.out _ ((k + 1) % 3) HRK.out.low (by omega)
          cases e1
          have hw2 : wrap64 ((k : Int) + 1) = (k : Int) + 1 := by unfold wrap64; omega
          have hm1 : ((k : Int) + 1).tmod 3 = (((k + 1) % 3 : Nat) : Int) := by rw [Int.tmod_eq_emod_of_nonneg (by omega)]; omega
          have hy0 : (0 : Int) ≤ (((k + 1) % 3 : Nat) : Int) := by omega
          have hy1 : (((k + 1) % 3 : Nat) : Int) < 3 := by omega
          have HSK := Lib.hid (HSI.out k)
          have HED : Hid (edT (T.getD i (0, 0, 0)) k = (min (tvT (T.getD i (0, 0, 0)) k) (tvT (T.getD i (0, 0, 0)) ((k + 1) % 3)), max (tvT (T.getD i (0, 0, 0)) k) (tvT (T.getD i (0, 0, 0)) ((k + 1) % 3)))) := rfl
          generalize tvT (T.getD i (0, 0, 0)) k = a at *
          generalize tvT (T.getD i (0, 0, 0)) ((k + 1) % 3) = b at *
          generalize edT (T.getD i (0, 0, 0)) k = ed at *
          have HLK : Hid ((allK edT T i k).length ≤ 1000000) := by have := HLI.out k; have := HT.out; unfold Hid; omega
          generalize hm : min a b = m at *
          generalize hM : max a b = q at *
          rename World => wy
          go_wp2_with (at_builtin; refine wpList_append_lies _ rfl _ _ 78 rfl w.heap.size 62 i0 (.agg #[.int .i64 0, .int .i64 0]) 2 16 Tryz.underlying78 hi hz0' hz1' hz2' rfl (by decide) _ (allK edT T i k).length (cellsK encP (allK edT T i k)) rfl ?qo ⟨wy.heap.size, 0, none⟩ 1 1 (encP (m, q)) rfl ?qc1 ?qc2 ?qc3 (by decide) ?qc4 ?qc5 ?qc6 (wy.heap.size + 1) (by simp) ?_)
          case qo => exact HRK.out.own.alloc _
          case qc1 => rfl
          case qc2 => first | exact cells_new wy (encP (m, q)) 62 | exact fun _ _ h => h
          case qc3 => exact encP_one _
          case qc4 => have := HLK.out; unfold maxLen; omega
          case qc5 => have := HLK.out; omega
          case qc6 => have := HRK.out.low.size; simp; omega
          intro g6 c6 w3 ho2 hg2 hat2 hlt2
          have HS2 : Hid (PR w w3 (.slice (some ⟨g6, 0, none⟩) ((allK edT T i k).length + 1) c6) (allK edT T i (k + 1))) := by
            unfold Hid
            rw [HSK.out, HED.out]
            exact HRK.out.grow (n := (allK edT T i k).length + 1) ((Below.refl _ _).alloc (Nat.le_refl _) _) hg2 (by simp) (by rw [cellsK_append, cellsK_one]; exact ho2)
          clear ho2 hg2 hat2 hlt2
          go_wp2
          go_roundw
          case rel => exact ⟨k + 1, by omega, by (try rw [hw2]); rfl, HS2.out⟩
          case measure => (try rw [hw2]); simp only [intOf]; omega
        · have e : k = 3 := by omega
          subst e
          have HN3 := HRK.out
          have HN3 := Lib.hid HN3
          clear HRK
          go_wp2
          go_roundw
          case rel => exact ⟨i + 1, by omega, by (try rw [hw1]); rfl, (by first | exact HN3.out | (rw [HNI.out]; exact HN3.out))⟩
          case measure => (try rw [hw1]); simp only [intOf]; omega
    · have e : i = T.length := by omega
      subst e
      have hz : ¬(T.length : Int) < (T.length : Int) := by omega
      have HLL := Lib.hid (HLN.out T.length 0)
      obtain ⟨gl, cl, hv⟩ := HR.out.form
      subst hv
      have HPC := Lib.hid (PR.pairs HR.out (by have := HLL.out; have := HT.out; omega))
      clear HR
      go_wp2_with (go_at_call 142; refine HPC.out.mono ?_; rintro r w2 ⟨v, L, rfl, HP, HS⟩)
      go_ret
      exact ⟨v, L, rfl, HP, HS⟩

end Go.Proofs.YtdoaniccefdkaaaGreatDoor

/- trivetref15: Border. -/
namespace Go.Proofs.YtdoaniccefdkaaaGreatDoor
open Go.RowKit Tvf Go.Maps Go.WideMaps

theorem bordK_step (T : List Tri3) (i k : Nat) : bordK T i (k + 1) = bordK T i k ++ (if freeB T (diT (T.getD i (0, 0, 0)) k) = true then [diT (T.getD i (0, 0, 0)) k] else []) := by
  unfold bordK
  rw [allK_step, List.filter_append, List.filter_cons, List.filter_nil]
theorem bordK_next {T : List Tri3} {i : Nat} (hi : i < T.length) : bordK T (i + 1) 0 = bordK T i 3 := by
  unfold bordK
  rw [allK_next diT hi]
theorem bordK_len (T : List Tri3) (i k : Nat) : (bordK T i k).length ≤ 3 * T.length + k := Nat.le_trans (List.length_filter_le _ _) (allK_len diT T i k)

set_option maxRecDepth 100000 in
set_option maxHeartbeats 4000000 in
theorem border15 {w : World} {B xb : Nat} {P : List Pt} {ad : Option Addr} {cap : Nat} {T : List Tri3} {vT : Value} {S : List Seg3} {vS : Value} (h : RMs w B xb P ad cap T vT S vS) (hT : T.length ≤ 300000) :
    Calls Tryz.prog 80 #[.pointer (some ⟨xb, 0, none⟩)] w fun r w' => ∃ v L, r = .returned v ∧ Hid (PR w w' v L) ∧ Hid (PSrt (bordK T T.length 0) (bordK T T.length 0).length L) := by
  obtain ⟨i0, hi, hz0', hz1', hz2'⟩ := info_parts infoPair
  obtain ⟨gt, cp, rfl, hgt⟩ := h.form
  have HGT := Lib.hid hgt
  have HX : Hid (∀ W, Below w.heap.size w W → W.cell? ⟨xb, 1, none⟩ = some (.slice gt T.length cp)) := fun W hb => (h.below hb).cells.2.1
  have HC : Hid (∀ W i k, Below w.heap.size w W → i < T.length → k < 3 → ∃ b, gt = some ⟨b, 0, none⟩ ∧ W.cell? ⟨b, i * 3 + k, none⟩ = some (.int .i64 (tvT (T.getD i (0, 0, 0)) k))) := fun W i k hb hi hk => (h.below hb).tcell hi hk
  have HT := Lib.hid hT
  have HAP := Lib.hid (fun W (hb : Below w.heap.size w W) a b => apex15 (h.below hb) (by omega) a b)
  have HNX := Lib.hid (fun i (hi : i < T.length) => bordK_next (T := T) hi)
  have HST := Lib.hid (fun i k => bordK_step T i k)
  have HLN := Lib.hid (fun i k => bordK_len T i k)
  have hlen2 : ∀ x : Int × Int, (encP x).length = 2 := fun _ => rfl
  clear h hgt hT
  go_enter Tryz.func80, Tryz.ntmps80
  go_wp2
  go_loopw [3, 4] (fun s3 s4 wr => ∃ (i : Nat), i ≤ T.length ∧ s4 = .int .i64 i ∧ Hid (PR w wr s3 (bordK T i 0))) (fun _ s4 _ => T.length - (intOf s4).toNat)
  case atStart => exact ⟨0, Nat.zero_le _, rfl, PR.nil (Below.refl _ _)⟩
  case round =>
    obtain ⟨i, hiT, rfl, HR⟩ := hrel
    have c1 := HX.out _ HR.out.low
    by_cases hlt : i < T.length
    · have hz : (i : Int) < (T.length : Int) := by omega
      have hw1 : wrap64 ((i : Int) + 1) = (i : Int) + 1 := by have := HT.out; unfold wrap64; omega
      have HNI := Lib.hid (HNX.out i hlt)
      have HSI := Lib.hid (HST.out i)
      have HLI := Lib.hid (HLN.out i)
      obtain ⟨bb, rfl⟩ := HGT.out i hlt
      have HCI := Lib.hid (fun W k hb hk => HC.out W i k hb hlt hk)
      have hi0 : (0 : Int) ≤ (i : Int) := by omega
      clear c1
      have c1 := HX.out _ HR.out.low
      go_wp2
      go_loopw [3, 5] (fun s3 s5 wy => ∃ (k : Nat), k ≤ 3 ∧ s5 = .int .i64 k ∧ Hid (PR w wy s3 (bordK T i k))) (fun _ s5 _ => 3 - (intOf s5).toNat)
      case atStart => exact ⟨0, by omega, rfl, HR.out⟩
      case round =>
        obtain ⟨k, hk, rfl, HRK⟩ := hrel
        obtain ⟨gl, cl, hv⟩ := HRK.out.form
        subst hv
        by_cases hk3 : k < 3
        · have hkz : (k : Int) < 3 := by omega
          have hk0 : (0 : Int) ≤ (k : Int) := by omega
          have d1 := HX.out _ HRK.out.low
          obtain ⟨_, e1, x0⟩ := HCI.out _ k HRK.out.low hk3
          cases e1
          obtain ⟨_, e1, x1⟩ := HCI.out _ ((k + 1) % 3) HRK.out.low (by omega)
          cases e1
          have hw2 : wrap64 ((k : Int) + 1) = (k : Int) + 1 := by unfold wrap64; omega
          have hm1 : ((k : Int) + 1).tmod 3 = (((k + 1) % 3 : Nat) : Int) := by rw [Int.tmod_eq_emod_of_nonneg (by omega)]; omega
          have hy0 : (0 : Int) ≤ (((k + 1) % 3 : Nat) : Int) := by omega
          have hy1 : (((k + 1) % 3 : Nat) : Int) < 3 := by omega
          have HSK := Lib.hid (HSI.out k)
          have HED : Hid (diT (T.getD i (0, 0, 0)) k = (tvT (T.getD i (0, 0, 0)) k, tvT (T.getD i (0, 0, 0)) ((k + 1) % 3))) := rfl
          generalize tvT (T.getD i (0, 0, 0)) k = a at *
          generalize tvT (T.getD i (0, 0, 0)) ((k + 1) % 3) = b at *
          generalize diT (T.getD i (0, 0, 0)) k = ed at *
          have HLK : Hid ((bordK T i k).length ≤ 1000000) := by have := HLI.out k; have := HT.out; unfold Hid; omega
          rename World => wy
          have HA := Lib.hid (HAP.out _ HRK.out.low b a)
          have HFR : Hid (freeB T ed = (apR T b a).isNone) := by rw [HED.out]; rfl
          generalize apR T b a = ob at *
          cases ob with
          | none =>
            have HA2 : Hid (Calls Tryz.prog 74 #[.pointer (some ⟨xb, 0, none⟩), .int .i64 b, .int .i64 a] wy fun r w' => r = .returned (.tuple #[.int .i64 0, .bool false]) ∧ w' = wy) := HA.out
            clear HA
            go_wp2_with (first
              | (go_at_call 74; with_reducible refine HA2.out.mono ?_; rintro r w2 ⟨rfl, e2⟩; obtain rfl := e2.symm)
              | (at_builtin; refine wpList_append_lies _ rfl _ _ 78 rfl w.heap.size 62 i0 (.agg #[.int .i64 0, .int .i64 0]) 2 16 Tryz.underlying78 hi hz0' hz1' hz2' rfl (by decide) _ (bordK T i k).length (cellsK encP (bordK T i k)) rfl ?qo ⟨wy.heap.size, 0, none⟩ 1 1 (encP (a, b)) rfl ?qc1 ?qc2 ?qc3 (by decide) ?qc4 ?qc5 ?qc6 (wy.heap.size + 1) (by simp) ?_))
            case qo => exact HRK.out.own.alloc _
            case qc1 => rfl
            case qc2 => first | exact cells_new wy (encP (a, b)) 62 | exact fun _ _ h => h
            case qc3 => exact encP_one _
            case qc4 => have := HLK.out; unfold maxLen; omega
            case qc5 => have := HLK.out; omega
            case qc6 => have := HRK.out.low.size; simp; omega
            intro g6 c6 w3 ho2 hg2 hat2 hlt2
            have HS2 : Hid (PR w w3 (.slice (some ⟨g6, 0, none⟩) ((bordK T i k).length + 1) c6) (bordK T i (k + 1))) := by
              unfold Hid
              rw [HSK.out, HFR.out, HED.out]
              exact HRK.out.grow (n := (bordK T i k).length + 1) ((Below.refl _ _).alloc (Nat.le_refl _) _) hg2 (by simp) (by rw [cellsK_append]; exact ho2)
            clear ho2 hg2 hat2 hlt2
            go_wp2
            go_roundw
            case rel => exact ⟨k + 1, by omega, by (try rw [hw2]); rfl, HS2.out⟩
            case measure => (try rw [hw2]); simp only [intOf]; omega
          | some c =>
            have HA2 : Hid (Calls Tryz.prog 74 #[.pointer (some ⟨xb, 0, none⟩), .int .i64 b, .int .i64 a] wy fun r w' => r = .returned (.tuple #[.int .i64 c, .bool true]) ∧ w' = wy) := HA.out
            clear HA
            go_wp2_with (first
              | (go_at_call 74; with_reducible refine HA2.out.mono ?_; rintro r w2 ⟨rfl, e2⟩; obtain rfl := e2.symm))
            have HS2 : Hid (PR w wy (.slice gl (bordK T i k).length cl) (bordK T i k)) := HRK.out
            go_roundw
            case rel => exact ⟨k + 1, by omega, by (try rw [hw2]); rfl, by
              first
                | exact HS2.out
                | (rw [HSK.out, HFR.out]; simp only [Option.isNone, Bool.false_eq_true, if_false, List.append_nil]; exact HS2.out)⟩
            case measure => (try rw [hw2]); simp only [intOf]; omega
        · have e : k = 3 := by omega
          subst e
          have HN3 := HRK.out
          have HN3 := Lib.hid HN3
          clear HRK
          go_wp2
          go_roundw
          case rel => exact ⟨i + 1, by omega, by (try rw [hw1]); rfl, (by first | exact HN3.out | (rw [HNI.out]; exact HN3.out))⟩
          case measure => (try rw [hw1]); simp only [intOf]; omega
    · have e : i = T.length := by omega
      subst e
      have hz : ¬(T.length : Int) < (T.length : Int) := by omega
      have HLL := Lib.hid (HLN.out T.length 0)
      obtain ⟨gl, cl, hv⟩ := HR.out.form
      subst hv
      have HPC := Lib.hid (PR.pairs HR.out (by have := HLL.out; have := HT.out; omega))
      clear HR
      go_wp2_with (go_at_call 142; refine HPC.out.mono ?_; rintro r w2 ⟨v, L, rfl, HP, HS⟩)
      go_ret
      exact ⟨v, L, rfl, HP, HS⟩

end Go.Proofs.YtdoaniccefdkaaaGreatDoor
