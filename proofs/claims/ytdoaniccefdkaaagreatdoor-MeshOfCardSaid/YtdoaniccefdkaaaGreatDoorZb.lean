/- Part of the proof. No conditions. -/
import Derived.Test.YtdoaniccefdkaaaGreatDoorZO
import Derived.Test.YtdoaniccefdkaaaGreatDoorZU
import Derived.Test.YtdoaniccefdkaaaGreatDoorZa

set_option linter.all false
/- trivetref15.Pairs. -/
namespace Go.Proofs.YtdoaniccefdkaaaGreatDoor
open Go.RowKit Tvf Go.Maps Go.WideMaps

theorem eqlP (a b x y : Int) (w : World) : (binOp .eql 62 (.agg #[.int .i64 a, .int .i64 b]) (.agg #[.int .i64 x, .int .i64 y])).run Tryz.prog w = .ok (.bool (a == x && b == y)) w := by
  rw [run_eql_struct, equalP]; rfl

/-- a new row of pairs beside what was there -/
structure PR (w wr : World) (v : Value) (L : List (Int × Int)) : Prop where
  own : wr.ownsRow w.heap.size 62 2 v L.length (cellsK encP L)
  low : Below w.heap.size w wr
theorem PR.nil {w wr : World} (h : Below w.heap.size w wr) : PR w wr (.slice none 0 0) [] := ⟨World.ownsRow_nil _ _ _ _, h⟩
theorem PR.grow {w wr wa w2 : World} {v v' : Value} {L L' : List (Int × Int)} {n : Nat} (h : PR w wr v L) (ha : Below wr.heap.size wr wa) (hg : wa.grownBy w2 v.ownBlock) (hn : n = L'.length) (ho : w2.ownsRow w.heap.size 62 2 v' n (cellsK encP L')) : PR w w2 v' L' := by
  subst hn
  have hb : Below w.heap.size w wa := h.low.trans (ha.mono h.low.size)
  exact ⟨ho, hb.grown hg hb.size (fun k hk => (h.own.lt k hk).1)⟩
theorem PR.form {w wr : World} {v : Value} {L : List (Int × Int)} (h : PR w wr v L) : ∃ g c, v = .slice g L.length c := by
  rcases h.own.2 with ⟨h0, h1⟩ | ⟨g, c, cur, h0, _⟩
  · exact ⟨none, 0, by rw [h1]; exact h0⟩
  · exact ⟨_, _, h0⟩
theorem PR.below {w wr w' : World} {v : Value} {L : List (Int × Int)} (h : PR w wr v L) (hb : Below wr.heap.size wr w') : PR w w' v L :=
  ⟨ownsRow_same h.own (fun g hg => hb.block g (h.own.lt g hg).2), h.low.trans (hb.mono h.low.size)⟩
theorem pair_cells {w : World} {B : Nat} {g cap : Nat} {T : List (Int × Int)} (h : w.ownsRow B 62 2 (.slice (some ⟨g, 0, none⟩) T.length cap) T.length (cellsK encP T)) {i : Nat} (hi : i < T.length) :
    w.cell? ⟨g, i * 2, none⟩ = some (.int .i64 (T.getD i (0, 0)).1) ∧ w.cell? ⟨g, i * 2 + 1, none⟩ = some (.int .i64 (T.getD i (0, 0)).2) := by
  have e : T.getD i (0, 0) = T[i] := by rw [List.getD_eq_getElem?_getD, List.getElem?_eq_getElem hi]; rfl
  have hk : ∀ x : Int × Int, (encP x).length = 2 := fun _ => rfl
  rw [e, h.cellAt (i * 2) (by omega), h.cellAt (i * 2 + 1) (by omega)]
  have h0 := cellsK_at hk T i hi 0 (by omega)
  rw [Nat.add_zero] at h0
  exact ⟨h0, cellsK_at hk T i hi 1 (by omega)⟩
theorem pair_news {w : World} {B g cap : Nat} {L : List (Int × Int)} (h : w.ownsRow B 62 2 (.slice (some ⟨g, 0, none⟩) L.length cap) L.length (cellsK encP L)) {k : Nat} (hk : k ≤ L.length) :
    (∀ j u, (cellsK encP (L.take k))[j]? = some u → w.cell? ⟨g, j, none⟩ = some u) ∧ (∀ j u, (cellsK encP (L.drop k))[j]? = some u → w.cell? ⟨g, k * 2 + j, none⟩ = some u) := by
  have hlen : ∀ x : Int × Int, (encP x).length = 2 := fun _ => rfl
  have e : cellsK encP L = cellsK encP (L.take k) ++ cellsK encP (L.drop k) := by rw [← cellsK_append, List.take_append_drop]
  have l1 : (cellsK encP (L.take k)).length = k * 2 := by rw [cellsK_len hlen, List.length_take, Nat.min_eq_left hk]
  have l2 : (cellsK encP L).length = L.length * 2 := cellsK_len hlen L
  constructor
  · intro j u hj
    have hlt := (List.getElem?_eq_some_iff.1 hj).1
    rw [h.cellAt j (by rw [l1] at hlt; omega), e, List.getElem?_append_left hlt]
    exact hj
  · intro j u hj
    have hlt := (List.getElem?_eq_some_iff.1 hj).1
    rw [cellsK_len hlen, List.length_drop] at hlt
    rw [h.cellAt (k * 2 + j) (by omega), e, List.getElem?_append_right (by omega), l1, Nat.add_sub_cancel_left]
    exact hj

set_option maxRecDepth 100000 in
set_option maxHeartbeats 8000000 in
theorem pairs15 {w : World} {ad : Option Addr} {cap : Nat} {l : List (Int × Int)} (hc : KCells encP w ad l) (hl : l.length ≤ 1000000) :
    Calls Tryz.prog 142 #[.slice ad l.length cap] w fun r w' => ∃ v L, r = .returned v ∧ Hid (PR w w' v L) ∧ Hid (PSrt l l.length L) := by
  obtain ⟨i0, hi, hz0', hz1', hz2'⟩ := info_parts infoPair
  have HC : Hid (∀ i W, i < l.length → Below w.heap.size w W → ∃ b, ad = some ⟨b, 0, none⟩ ∧ W.cell? ⟨b, i * 2, none⟩ = some (.int .i64 (l.getD i (0, 0)).1) ∧ W.cell? ⟨b, i * 2 + 1, none⟩ = some (.int .i64 (l.getD i (0, 0)).2)) := fun i W hi hb => by
    obtain ⟨g, e, _, h0, h1⟩ := hc.pair hi
    exact ⟨g, e, cell_keep h0 hb, cell_keep h1 hb⟩
  have HTL := Lib.hid hl
  have hlen2 : ∀ x : Int × Int, (encP x).length = 2 := fun _ => rfl
  clear hc hl
  go_enter Tryz.func142, Tryz.ntmps142
  go_wp2
  go_loopw [3, 4] (fun s3 s4 wr => ∃ (i : Nat) (L : List (Int × Int)), i ≤ l.length ∧ s4 = .int .i64 i ∧ Hid (PR w wr s3 L) ∧ Hid (PSrt l i L)) (fun _ s4 _ => l.length - (intOf s4).toNat)
  case atStart => exact ⟨0, [], Nat.zero_le _, rfl, PR.nil (Below.refl _ _), PSrt.nil l⟩
  case round =>
    obtain ⟨i, L, hiT, rfl, HR, HSR⟩ := hrel
    obtain ⟨gl, cl, hv⟩ := HR.out.form
    subst hv
    by_cases hlt : i < l.length
    · have HLL : Hid (L.length ≤ i) := HSR.out.2.2
      have HST := Lib.hid (fun k => PSrt.step (k := k) HSR.out hlt)
      have HSM := Lib.hid (fun k => PSrt.same (k := k) HSR.out hlt)
      have HCI := Lib.hid (fun W => HC.out i W hlt)
      generalize l.getD i (0, 0) = x at *
      obtain ⟨x0, x1⟩ := x
      dsimp only at HCI
      have hz : (i : Int) < (l.length : Int) := by omega
      have hi0 : (0 : Int) ≤ (i : Int) := by omega
      have hw1 : wrap64 ((i : Int) + 1) = (i : Int) + 1 := by have := HTL.out; unfold wrap64; omega
      rename World => wr
      have HOC : Hid (∀ j W, j < L.length → Below wr.heap.size wr W → ∃ g, gl = some ⟨g, 0, none⟩ ∧ W.cell? ⟨g, j * 2, none⟩ = some (.int .i64 (L.getD j (0, 0)).1) ∧ W.cell? ⟨g, j * 2 + 1, none⟩ = some (.int .i64 (L.getD j (0, 0)).2)) := fun j W hj hb => by
        have ho := (HR.out.below hb).own
        rcases ho.2 with ⟨_, h0⟩ | ⟨g, cp', cur, e, _⟩
        · omega
        · cases e
          obtain ⟨y0, y1⟩ := pair_cells ho hj
          exact ⟨g, rfl, y0, y1⟩
      go_upto_block 2 with fail
      go_cut [5] from 13 to 89 (fun s5 wx => ∃ k : Nat, s5 = .int .i64 k ∧ Hid (InsP L (x0, x1) k) ∧ Hid (Below wr.heap.size wr wx))
      case first =>
        go_wp2_with fail
        go_loopw [5] (fun s5 wy => ∃ k : Nat, k ≤ L.length ∧ s5 = .int .i64 k ∧ Hid (∀ j, j < k → ltP (L.getD j (0, 0)) (x0, x1)) ∧ Hid (Below wr.heap.size wr wy)) (fun s5 _ => L.length - (intOf s5).toNat)
        case atStart => exact ⟨0, Nat.zero_le _, rfl, fun j h1 => absurd h1 (by omega), Below.refl _ _⟩
        case round =>
          obtain ⟨k, hk, rfl, HK, HBR⟩ := hrel
          have HBW : Hid (Below w.heap.size w _) := HR.out.low.trans (HBR.out.mono HR.out.low.size)
          obtain ⟨bb, rfl, a0, a1⟩ := HCI.out _ HBW.out
          by_cases hk2 : k < L.length
          · obtain ⟨g, rfl, y0, y1⟩ := HOC.out k _ hk2 HBR.out
            have HLT : Hid (ltP (L.getD k (0, 0)) (x0, x1) ↔ (L.getD k (0, 0)).1 < x0 ∨ ((L.getD k (0, 0)).1 = x0 ∧ (L.getD k (0, 0)).2 < x1)) := Iff.rfl
            have HNX : Hid (ltP (L.getD k (0, 0)) (x0, x1) → ∀ j, j < k + 1 → ltP (L.getD j (0, 0)) (x0, x1)) := fun h0 j hj => by
              rcases Nat.lt_or_ge j k with q | q
              · exact HK.out j q
              · rw [show j = k by omega]; exact h0
            generalize (L.getD k (0, 0)).1 = u0 at *
            generalize (L.getD k (0, 0)).2 = u1 at *
            have hkz : (k : Int) < (L.length : Int) := by omega
            have hk0 : (0 : Int) ≤ (k : Int) := by omega
            have hw2 : wrap64 ((k : Int) + 1) = (k : Int) + 1 := by have := HLL.out; have := HTL.out; unfold wrap64; omega
            have YES : Hid (ltP (L.getD k (0, 0)) (x0, x1) → InsP L (x0, x1) k → True) := fun _ _ => trivial
            by_cases e1 : u0 < x0
            · have HN2 := Lib.hid (HNX.out (HLT.out.2 (.inl e1)))
              go_upto_region 6 with fail
              go_quiet (fail)
              go_wp2
              go_roundw
              case rel => exact ⟨k + 1, by omega, by (try rw [hw2]); rfl, HN2.out, below_q15 HBR.out nq⟩
              case measure => (try rw [hw2]); simp only [intOf]; omega
            · by_cases e2 : u0 = x0
              · by_cases e3 : u1 < x1
                · have HN2 := Lib.hid (HNX.out (HLT.out.2 (.inr ⟨e2, e3⟩)))
                  subst e2
                  go_upto_region 6 with fail
                  go_quiet (fail)
                  go_wp2
                  go_roundw
                  case rel => exact ⟨k + 1, by omega, by (try rw [hw2]); rfl, HN2.out, below_q15 HBR.out nq⟩
                  case measure => (try rw [hw2]); simp only [intOf]; omega
                · have HNO : Hid (¬ltP (L.getD k (0, 0)) (x0, x1)) := fun h => by have := HLT.out.1 h; omega
                  subst e2
                  go_upto_region 6 with fail
                  go_quiet (fail)
                  go_wp2
                  go_meet
                  exact ⟨k, rfl, ⟨hk, HK.out, fun _ => HNO.out⟩, below_q15 HBR.out nq⟩
              · have HNO : Hid (¬ltP (L.getD k (0, 0)) (x0, x1)) := fun h => by have := HLT.out.1 h; omega
                go_upto_region 6 with fail
                go_quiet (fail)
                go_wp2
                go_meet
                exact ⟨k, rfl, ⟨hk, HK.out, fun _ => HNO.out⟩, below_q15 HBR.out nq⟩
          · have hkz : ¬(k : Int) < (L.length : Int) := by omega
            go_upto_region 6 with fail
            go_quiet (fail)
            go_wp2
            go_meet
            exact ⟨k, rfl, ⟨hk, HK.out, fun e => absurd e hk2⟩, below_q15 HBR.out nq⟩
      case rest =>
        obtain ⟨k, rfl, HI, HBW⟩ := hcut
        have hk := HI.out.1
        have hkz : (k : Int) ≤ (L.length : Int) := by omega
        have hk0 : (0 : Int) ≤ (k : Int) := by omega
        have HSM2 := Lib.hid (HSM.out k)
        have HST2 := Lib.hid (HST.out k HI.out)
        clear HSM HST
        go_upto_region 8 with fail
        go_cut [72] from 58 to 72 (fun s72 wx => (∃ b : Bool, s72 = .bool b ∧ Hid (b = true ↔ (k < L.length ∧ L.getD k (0, 0) = (x0, x1)))) ∧ Hid (Below wr.heap.size wr wx))
        case first =>
          have HRC := Lib.hid (HR.out.below HBW.out)
          have HBX : Hid (Below w.heap.size w _) := HRC.out.low
          by_cases hk2 : k < L.length
          · obtain ⟨g, rfl, y0, y1⟩ := HOC.out k _ hk2 HBW.out
            obtain ⟨bb, rfl, a0, a1⟩ := HCI.out _ HBX.out
            have hk2z : (k : Int) < (L.length : Int) := by omega
            have hqq := eqlP (L.getD k (0, 0)).1 (L.getD k (0, 0)).2 x0 x1
            have HBE : Hid (((L.getD k (0, 0)).1 == x0 && (L.getD k (0, 0)).2 == x1) = true ↔ (k < L.length ∧ L.getD k (0, 0) = (x0, x1))) := by
              unfold Hid
              rw [Bool.and_eq_true, beq_iff_eq, beq_iff_eq]
              exact ⟨fun h => ⟨hk2, Prod.ext h.1 h.2⟩, fun h => by rw [h.2]; exact ⟨rfl, rfl⟩⟩
            generalize ((L.getD k (0, 0)).1 == x0 && (L.getD k (0, 0)).2 == x1) = bq at hqq HBE
            generalize (L.getD k (0, 0)).1 = u0 at y0 y1 hqq
            generalize (L.getD k (0, 0)).2 = u1 at y0 y1 hqq
            go_upto_region 8 with fail
            go_quiet (fail)
            go_wp2_with fail
            go_meet
            exact ⟨⟨bq, rfl, HBE.out⟩, below_q15 HBW.out nq⟩
          · have hk2z : ¬(k : Int) < (L.length : Int) := by omega
            have HNE : Hid (false = true ↔ (k < L.length ∧ L.getD k (0, 0) = (x0, x1))) := ⟨fun h => by simp at h, fun e => absurd e.1 hk2⟩
            go_upto_region 8 with fail
            go_quiet (fail)
            go_wp2_with fail
            go_meet
            exact ⟨⟨false, rfl, HNE.out⟩, below_q15 HBW.out nq⟩
        case rest =>
          obtain ⟨⟨bq, rfl, HBE⟩, HBW2⟩ := hcut
          clear HBW
          have HBW := HBW2
          clear HBW2
          have HRC := Lib.hid (HR.out.below HBW.out)
          cases bq with
          | true =>
            have HS3 := Lib.hid (HSM2.out (HBE.out.1 rfl).1 (HBE.out.1 rfl).2)
            go_wp2
            go_roundw
            case rel => exact ⟨i + 1, L, by omega, by (try rw [hw1]); rfl, HRC.out, HS3.out⟩
            case measure => (try rw [hw1]); simp only [intOf]; omega
          | false =>
          have HNE : Hid (k < L.length → L.getD k (0, 0) ≠ (x0, x1)) := fun h1 h2 => by have := HBE.out.2 ⟨h1, h2⟩; simp at this
          have HS0 : Hid (PR w wc (.slice none 0 0) []) := PR.nil HRC.out.low
          have HNX : Hid (∀ A D, A = L.take k → D = L.drop k → PSrt l (i + 1) (A ++ [(x0, x1)] ++ D)) := fun A D hA hD => by rw [hA, hD]; exact HST2.out HNE.out
          have HBX : Hid (Below w.heap.size w _) := HRC.out.low
          obtain ⟨bb, rfl, a0, a1⟩ := HCI.out _ HBX.out
          clear HOC HSM2 HST2 HR HC a0 a1
          cases gl with
          | none =>
            have ho := HRC.out.own
            have hL0 : L.length = 0 ∧ cl = 0 := by
              rcases ho.2 with ⟨e, h0⟩ | ⟨_, _, _, e, _⟩
              · injection e with e1 e2 e3; exact ⟨h0, e3⟩
              · cases e
            obtain ⟨hL0, rfl⟩ := hL0
            have hL1 : L = [] := List.length_eq_zero_iff.1 hL0
            subst hL1
            have hk1 : k = 0 := by simpa using hk
            subst hk1
            have HNX2 : Hid (PSrt l (i + 1) [(x0, x1)]) := HNX.out [] [] rfl rfl
            obtain ⟨b1, e1, s0, s1⟩ := HCI.out _ HBX.out
            cases e1
            clear ho hkz hk0 hL0 hk HRC HI
            try simp only [List.length_nil]
            go_wp2_with (first
              | (at_builtin; refine wpList_append_zero rfl _ _ 78 rfl 62 i0 Tryz.underlying78 hi _ _ _ rfl (Nat.le_refl _) _ _ rfl ?_)
              | (at_builtin; refine wpList_append_lies _ rfl _ _ 78 rfl w.heap.size 62 i0 (.agg #[.int .i64 0, .int .i64 0]) 2 16 Tryz.underlying78 hi hz0' hz1' hz2' rfl (by decide) _ 0 [] rfl (World.ownsRow_nil _ _ _ _) ⟨wc.heap.size, 0, none⟩ 1 1 (encP (x0, x1)) rfl ?qc1 ?qc2 ?qc3 (by decide) ?qc4 ?qc5 ?qc6 (wc.heap.size + 1) (by simp) ?_))
            case qc1 => rfl
            case qc2 => first | exact cells_new wc (encP (x0, x1)) 62 | exact fun _ _ h => h
            case qc3 => exact encP_one _
            case qc4 => decide
            case qc5 => decide
            case qc6 => have := HS0.out.low.size; simp; omega
            intro g6 c6 w3 ho2 hg2 hat2 hlt2
            have HS2 : Hid (PR w w3 (.slice (some ⟨g6, 0, none⟩) (0 + 1) c6) [(x0, x1)]) := HS0.out.grow (n := 0 + 1) ((Below.refl _ _).alloc (Nat.le_refl _) _) hg2 rfl ho2
            have hc6 : 0 + 1 ≤ c6 := by
              rcases HS2.out.own.2 with ⟨e, _⟩ | ⟨_, _, _, e, _, _, h, _⟩
              · cases e
              · injection e with e1 e2 e3
                rw [e3]; exact h
            clear ho2 hg2 hat2 hlt2 s0 s1
            go_wp2_with (at_builtin; refine wpList_append_zero rfl _ _ 78 rfl 62 i0 Tryz.underlying78 hi _ _ _ rfl hc6 _ _ rfl ?_)
            go_roundw
            case rel => exact ⟨i + 1, _, by omega, by (try rw [hw1]); rfl, HS2.out, HNX2.out⟩
            case measure => (try rw [hw1]); simp only [intOf]; omega
          | some g0 =>
            have ho := HRC.out.own
            have hcap : L.length ≤ cl := by
              rcases ho.2 with ⟨e, _⟩ | ⟨_, _, _, e, _, _, h, _⟩
              · cases e
              · cases e; exact h
            obtain ⟨b0, rfl⟩ : ∃ b0, g0 = ⟨b0, 0, none⟩ := by
              rcases ho.2 with ⟨e, _⟩ | ⟨g, _, _, e, _⟩
              · cases e
              · cases e; exact ⟨g, rfl⟩
            have hcz : (L.length : Int) ≤ (cl : Int) := by omega
            have hkc : (k : Int) ≤ (cl : Int) := by omega
            obtain ⟨A, hA⟩ : ∃ A, A = L.take k := ⟨_, rfl⟩
            obtain ⟨D, hD⟩ : ∃ D, D = L.drop k := ⟨_, rfl⟩
            have hAl : A.length = k := by rw [hA, List.length_take, Nat.min_eq_left hk]
            have hDl : D.length = L.length - k := by rw [hD, List.length_drop]
            have HSN : Hid (∀ W, Below wc.heap.size wc W → (∀ j x, (cellsK encP A)[j]? = some x → W.cell? ⟨b0, j, none⟩ = some x) ∧ (∀ j x, (cellsK encP D)[j]? = some x → W.cell? ⟨b0, k * 2 + j, none⟩ = some x)) := fun W hb => by rw [hA, hD]; exact pair_news (HRC.out.below hb).own hk
            have HNX2 := Lib.hid (HNX.out A D hA hD)
            have HAL := Lib.hid hAl
            have HDL := Lib.hid hDl
            have HKL : Hid (k ≤ 1000000 ∧ L.length ≤ 1000000 ∧ k ≤ L.length) := by have := HLL.out; have := HTL.out; unfold Hid; omega
            clear hA hD hAl hDl HNX ho
            go_wp2_with (at_builtin; refine wpList_append_own_at _ rfl _ _ 78 rfl w.heap.size 62 i0 (.agg #[.int .i64 0, .int .i64 0]) 2 16 Tryz.underlying78 hi hz0' hz1' hz2' rfl (by decide) _ 0 [] rfl (World.ownsRow_nil _ _ _ _) ⟨b0, 0, none⟩ k cl (cellsK encP A) rfl ?qc1 ?qc2 ?qc3 ?qc4 ?qc5 ?qc6 ?_)
            case qc1 => rw [cellsK_len hlen2, HAL.out]
            case qc2 => intro j x hj; rw [Addr.add_lit]; simpa using (HSN.out _ (Below.refl _ _)).1 j x hj
            case qc3 => intro x hx; obtain ⟨y, _, hy⟩ := List.mem_flatMap.1 hx; exact encP_one y x hy
            case qc4 => have := HKL.out; unfold maxLen; omega
            case qc5 => have := HKL.out; omega
            case qc6 => exact HS0.out.low.size
            intro v1 w2 ho1 hg1 hnil1 hat1
            have HB2 : Hid (Below wc.heap.size wc w2) := (Below.refl _ wc).grown hg1 (Nat.le_refl _) (fun i e => by simp [Value.ownBlock] at e)
            have HS1 : Hid (PR w w2 v1 A) := HS0.out.grow (n := 0 + k) (Below.refl _ _) hg1 (by rw [HAL.out]; omega) (by simpa using ho1)
            have HAT : Hid (∀ i, v1.ownBlock = some i → wc.heap.size ≤ i) := fun i e => by
              rcases hat1 with e2 | e2
              · rw [e2] at e; simp [Value.ownBlock] at e
              · rw [e2] at e; cases e; exact Nat.le_refl _
            obtain ⟨g5, c5, hv1⟩ := HS1.out.form
            rw [HAL.out] at hv1
            subst hv1
            clear ho1 hg1 hnil1 hat1
            obtain ⟨b1, e1, s0, s1⟩ := HCI.out _ (HBX.out.trans (HB2.out.mono HBX.out.size))
            cases e1
            go_wp2_with (at_builtin; refine wpList_append_lies _ rfl _ _ 78 rfl w.heap.size 62 i0 (.agg #[.int .i64 0, .int .i64 0]) 2 16 Tryz.underlying78 hi hz0' hz1' hz2' rfl (by decide) _ k (cellsK encP A) rfl ?qo ⟨w2.heap.size, 0, none⟩ 1 1 (encP (x0, x1)) rfl ?qc1 ?qc2 ?qc3 (by decide) ?qc4 ?qc5 ?qc6 (w2.heap.size + 1) (by simp) ?_)
            case qo => have := HS1.out.own; rw [HAL.out] at this; exact this.alloc _
            case qc1 => rfl
            case qc2 => first | exact cells_new w2 (encP (x0, x1)) 62 | exact fun _ _ h => h
            case qc3 => exact encP_one _
            case qc4 => have := HKL.out; unfold maxLen; omega
            case qc5 => have := HKL.out; omega
            case qc6 => have := HS1.out.low.size; simp; omega
            intro g6 c6 w3 ho2 hg2 hat2 hlt2
            have HB3 : Hid (Below wc.heap.size wc w3) := HB2.out.trans (((Below.refl _ w2).alloc (Nat.le_refl _) _ |>.mono HB2.out.size).grown hg2 (by have := HB2.out.size; simp; omega) (fun i e => HAT.out i e))
            have HS2 : Hid (PR w w3 (.slice (some ⟨g6, 0, none⟩) (k + 1) c6) (A ++ [(x0, x1)])) := HS1.out.grow (n := k + 1) ((Below.refl _ _).alloc (Nat.le_refl _) _) hg2 (by simp [HAL.out]) (by rw [cellsK_append, cellsK_one]; exact ho2)
            clear ho2 hg2 hat2 hlt2 s0 s1
            by_cases hck : cl = k
            · have e1 : L.length = cl := by omega
              subst hck
              subst e1
              have hD0 : D = [] := List.length_eq_zero_iff.1 (by rw [HDL.out]; omega)
              have HD0 : Hid (A ++ [(x0, x1)] ++ D = A ++ [(x0, x1)]) := by unfold Hid; rw [hD0, List.append_nil]
              clear hD0
              have hc6 : L.length + 1 ≤ c6 := by
                rcases HS2.out.own.2 with ⟨e, _⟩ | ⟨_, _, _, e, _, _, h, _⟩
                · cases e
                · injection e with e1 e2 e3
                  rw [e3]
                  have e4 : (A ++ [(x0, x1)]).length = L.length + 1 := by rw [List.length_append, HAL.out]; rfl
                  omega
              go_wp2_with (at_builtin; refine wpList_append_zero rfl _ _ 78 rfl 62 i0 Tryz.underlying78 hi _ _ _ rfl hc6 _ _ rfl ?_)
              go_roundw
              case rel => exact ⟨i + 1, _, by omega, by (try rw [hw1]); rfl, HS2.out, by rw [← HD0.out]; exact HNX2.out⟩
              case measure => (try rw [hw1]); simp only [intOf]; omega
            · have hckz : ¬(cl : Int) = (k : Int) := by omega
              go_wp2_with (at_builtin; refine wpList_append_own_at _ rfl _ _ 78 rfl w.heap.size 62 i0 (.agg #[.int .i64 0, .int .i64 0]) 2 16 Tryz.underlying78 hi hz0' hz1' hz2' rfl (by decide) _ (k + 1) (cellsK encP (A ++ [(x0, x1)])) rfl ?qo ⟨b0, k * 2, none⟩ (L.length - k) (cl - k) (cellsK encP D) rfl ?qc1 ?qc2 ?qc3 ?qc4 ?qc5 ?qc6 ?_)
              case qo => have := HS2.out.own; rw [List.length_append, HAL.out] at this; exact this
              case qc1 => rw [cellsK_len hlen2, HDL.out]
              case qc2 => intro j x hj; rw [Addr.add_lit]; exact (HSN.out _ HB3.out).2 j x hj
              case qc3 => intro x hx; obtain ⟨y, _, hy⟩ := List.mem_flatMap.1 hx; exact encP_one y x hy
              case qc4 => have := HKL.out; unfold maxLen; omega
              case qc5 => have := HKL.out; omega
              case qc6 => exact HS2.out.low.size
              intro v3 w4 ho3 hg3 hnil3 hat3
              have HS3 : Hid (PR w w4 v3 (A ++ [(x0, x1)] ++ D)) := HS2.out.grow (n := k + 1 + (L.length - k)) (Below.refl _ _) hg3 (by simp [HAL.out, HDL.out]; omega) (by rw [cellsK_append]; exact ho3)
              generalize A ++ [(x0, x1)] ++ D = NL at HS3 HNX2
              obtain ⟨g7, c7, hv3⟩ := HS3.out.form
              subst hv3
              clear ho3 hg3 hnil3 hat3
              go_wp2
              go_roundw
              case rel => exact ⟨i + 1, NL, by omega, by (try rw [hw1]); rfl, HS3.out, HNX2.out⟩
              case measure => (try rw [hw1]); simp only [intOf]; omega
    · have e : i = l.length := by omega
      subst e
      have hz : ¬(l.length : Int) < (l.length : Int) := by omega
      go_wp2
      go_ret
      first | exact ⟨_, rfl, L, HR, HSR⟩ | exact ⟨_, L, rfl, HR, HSR⟩

end Go.Proofs.YtdoaniccefdkaaaGreatDoor
