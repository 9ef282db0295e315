/- trivetref15: Spokes. -/
import Derived.Test.YtdoaniccefdkaaaGreatDoorQMC
import Derived.Test.YtdoaniccefdkaaaGreatDoorZc
set_option linter.all false
namespace Go.Proofs.YtdoaniccefdkaaaGreatDoor
open Go.RowKit Tvf Go.Maps Go.WideMaps

/-- a row of numbers, made since w -/
structure IR (w wr : World) (v : Value) (L : List Int) : Prop where
  own : wr.ownsRow w.heap.size 3 1 v L.length (cellsK encI L)
  low : Below w.heap.size w wr
theorem IR.nil {w wr : World} (h : Below w.heap.size w wr) : IR w wr (.slice none 0 0) [] := ⟨World.ownsRow_nil _ _ _ _, h⟩
theorem IR.grow {w wr wa w2 : World} {v v' : Value} {L L' : List Int} {n : Nat} (h : IR w wr v L) (ha : Below wr.heap.size wr wa) (hg : wa.grownBy w2 v.ownBlock) (hn : n = L'.length) (ho : w2.ownsRow w.heap.size 3 1 v' n (cellsK encI L')) : IR w w2 v' L' := by
  subst hn
  refine ⟨ho, ?_⟩
  have h1 : Below w.heap.size w wa := h.low.trans (ha.mono h.low.size)
  exact h1.grown hg h1.size (fun i e => (h.own.lt i e).1)
theorem IR.form {w wr : World} {v : Value} {L : List Int} (h : IR w wr v L) : ∃ g c, v = .slice g L.length c := by
  rcases h.own.2 with ⟨rfl, h0⟩ | ⟨g, cp, cur, rfl, _⟩
  · exact ⟨none, 0, by rw [h0]⟩
  · exact ⟨_, _, rfl⟩
theorem IR.below {w wr w' : World} {v : Value} {L : List Int} (h : IR w wr v L) (hb : Below wr.heap.size wr w') : IR w w' v L :=
  ⟨ownsRow_same h.own (fun g e => hb.block g (h.own.lt g e).2), h.low.trans (hb.mono h.low.size)⟩

def outK (E : List (Int × Int)) (a : Int) (i : Nat) : List Int := ((E.take i).filter (fun x => x.1 == a)).map Prod.snd
def firK (E : List (Int × Int)) (a : Int) (i : Nat) : List Int := ((E.take i).filter (fun x => x.2 == a)).map Prod.fst
theorem take_snocP2 (E : List (Int × Int)) {i : Nat} (hi : i < E.length) : E.take (i + 1) = E.take i ++ [E.getD i (0, 0)] := by
  rw [List.take_add_one, List.getElem?_eq_getElem hi, List.getD_eq_getElem?_getD, List.getElem?_eq_getElem hi]; rfl
theorem outK_step (E : List (Int × Int)) (a : Int) {i : Nat} (hi : i < E.length) : outK E a (i + 1) = outK E a i ++ (if (E.getD i (0, 0)).1 = a then [(E.getD i (0, 0)).2] else []) := by
  unfold outK
  rw [take_snocP2 E hi, List.filter_append, List.map_append, List.filter_cons, List.filter_nil]
  by_cases h : (E.getD i (0, 0)).1 = a
  · rw [if_pos h, if_pos (by simpa using h)]; rfl
  · rw [if_neg h, if_neg (by simpa using h)]; rfl
theorem firK_step (E : List (Int × Int)) (a : Int) {i : Nat} (hi : i < E.length) : firK E a (i + 1) = firK E a i ++ (if (E.getD i (0, 0)).2 = a then [(E.getD i (0, 0)).1] else []) := by
  unfold firK
  rw [take_snocP2 E hi, List.filter_append, List.map_append, List.filter_cons, List.filter_nil]
  by_cases h : (E.getD i (0, 0)).2 = a
  · rw [if_pos h, if_pos (by simpa using h)]; rfl
  · rw [if_neg h, if_neg (by simpa using h)]; rfl
theorem outK_len (E : List (Int × Int)) (a : Int) (i : Nat) : (outK E a i).length ≤ E.length := by
  unfold outK; rw [List.length_map]; exact Nat.le_trans (List.length_filter_le _ _) (by rw [List.length_take]; omega)
theorem firK_len (E : List (Int × Int)) (a : Int) (i : Nat) : (firK E a i).length ≤ E.length := by
  unfold firK; rw [List.length_map]; exact Nat.le_trans (List.length_filter_le _ _) (by rw [List.length_take]; omega)
theorem sp15_eq (E : List (Int × Int)) (a : Int) : firK E a E.length ++ outK E a E.length = sp15L E a := by
  unfold firK outK sp15L; rw [List.take_length]
theorem cellsI_len (l : List Int) : (cellsK encI l).length = l.length := by rw [cellsI, List.length_map]

set_option maxRecDepth 100000 in
set_option maxHeartbeats 8000000 in
theorem spokes15 {w : World} {B xb : Nat} {P : List Pt} {ad : Option Addr} {cap : Nat} {T : List Tri3} {vT : Value} {S : List Seg3} {vS : Value} (h : RMs w B xb P ad cap T vT S vS) (hT : T.length ≤ 300000) {E : List (Int × Int)} (hE : ∀ L, PSrt (allT edT T) (allT edT T).length L → L = E) (hEl : E.length ≤ 1000000) (a : Int) :
    Calls Tryz.prog 85 #[.pointer (some ⟨xb, 0, none⟩), .int .i64 a] w fun r w' => ∃ v, r = .returned v ∧ Hid (IR w w' v (sp15L E a)) := by
  obtain ⟨i0, hi, hz0', hz1', hz2'⟩ := info_parts infoInt
  have HED := Lib.hid (edges15 h hT)
  have HE := Lib.hid hE
  have HEL := Lib.hid hEl
  have HOS := Lib.hid (fun i (hi : i < E.length) => outK_step E a hi)
  have HFS := Lib.hid (fun i (hi : i < E.length) => firK_step E a hi)
  have HOL := Lib.hid (fun i => outK_len E a i)
  have HFL := Lib.hid (fun i => firK_len E a i)
  have HSP := Lib.hid (sp15_eq E a)
  generalize sp15L E a = R at *
  clear h hT hE hEl
  go_enter Tryz.func85, Tryz.ntmps85
  go_wp2_with (go_at_call 79; refine HED.out.mono ?_; rintro r w1 ⟨v1, L1, rfl, HP1, HS1⟩)
  have HEQ := Lib.hid (HE.out L1 HS1.out)
  rw [HEQ.out] at HP1
  obtain ⟨ge, ce, hv1⟩ := HP1.out.form
  subst hv1
  have HC : Hid (∀ i W, i < E.length → Below w1.heap.size w1 W → ∃ g, ge = some ⟨g, 0, none⟩ ∧ W.cell? ⟨g, i * 2, none⟩ = some (.int .i64 (E.getD i (0, 0)).1) ∧ W.cell? ⟨g, i * 2 + 1, none⟩ = some (.int .i64 (E.getD i (0, 0)).2)) := fun i W hi hb => by
    have ho := (HP1.out.below hb).own
    rcases ho.2 with ⟨_, h0⟩ | ⟨g, cp', cur, e, _⟩
    · omega
    · cases e
      obtain ⟨y0, y1⟩ := pair_cells ho hi
      exact ⟨g, rfl, y0, y1⟩
  have HB1 := Lib.hid HP1.out.low
  clear HED HE HS1 HEQ HP1
  go_loopw [5, 7] (fun s5 s7 wr => ∃ i : Nat, i ≤ E.length ∧ s7 = .int .i64 i ∧ Hid (IR w1 wr s5 (outK E a i))) (fun _ s7 _ => E.length - (intOf s7).toNat)
  case atStart => exact ⟨0, Nat.zero_le _, rfl, IR.nil (Below.refl _ _)⟩
  case round =>
    obtain ⟨i, hiE, rfl, HR⟩ := hrel
    by_cases hlt : i < E.length
    · obtain ⟨g, rfl, y0, y1⟩ := HC.out i _ hlt HR.out.low
      have HST := Lib.hid (HOS.out i hlt)
      have HLK := Lib.hid (HOL.out i)
      generalize (E.getD i (0, 0)).1 = x at *
      generalize (E.getD i (0, 0)).2 = y at *
      have hz : (i : Int) < (E.length : Int) := by omega
      have hi0 : (0 : Int) ≤ (i : Int) := by omega
      have hw1 : wrap64 ((i : Int) + 1) = (i : Int) + 1 := by have := HEL.out; unfold wrap64; omega
      obtain ⟨gl, cl, hv⟩ := HR.out.form
      subst hv
      rename World => wr
      by_cases hx : x = a
      · subst hx
        have HST2 : Hid (outK E x (i + 1) = outK E x i ++ [y]) := by have := HST.out; rw [if_pos rfl] at this; exact this
        go_wp2_with (at_builtin; refine wpList_append_lies _ rfl _ _ 72 rfl w1.heap.size 3 i0 (.int .i64 0) 1 8 Tryz.underlying72 hi hz0' hz1' hz2' rfl (by decide) _ (outK E x i).length (cellsK encI (outK E x i)) rfl ?qo ⟨wr.heap.size, 0, none⟩ 1 1 (encI y) rfl ?qc1 ?qc2 ?qc3 (by decide) ?qc4 ?qc5 ?qc6 (wr.heap.size + 1) (by simp) ?_)
        case qo => exact HR.out.own.alloc _
        case qc1 => rfl
        case qc2 => first | exact cells_new wr (encI y) 3 | exact fun _ _ h => h
        case qc3 => exact encI_one _
        case qc4 => have := HLK.out; have := HEL.out; unfold maxLen; omega
        case qc5 => have := HLK.out; have := HEL.out; omega
        case qc6 => have := HR.out.low.size; simp; omega
        intro g6 c6 w3 ho2 hg2 hat2 hlt2
        have HS2 : Hid (IR w1 w3 (.slice (some ⟨g6, 0, none⟩) ((outK E x i).length + 1) c6) (outK E x (i + 1))) := by
          unfold Hid
          rw [HST2.out]
          exact HR.out.grow (n := (outK E x i).length + 1) ((Below.refl _ _).alloc (Nat.le_refl _) _) hg2 (by simp) (by rw [cellsK_append, cellsK_one]; exact ho2)
        clear ho2 hg2 hat2 hlt2
        go_wp2
        go_roundw
        case rel => exact ⟨i + 1, by omega, by (try rw [hw1]); rfl, HS2.out⟩
        case measure => (try rw [hw1]); simp only [intOf]; omega
      · have HS2 : Hid (IR w1 wr (.slice gl (outK E a i).length cl) (outK E a (i + 1))) := by
          have := HST.out; rw [if_neg hx, List.append_nil] at this; unfold Hid; rw [this]; exact HR.out
        go_wp2
        go_roundw
        case rel => exact ⟨i + 1, by omega, by (try rw [hw1]); rfl, HS2.out⟩
        case measure => (try rw [hw1]); simp only [intOf]; omega
    · have e : i = E.length := by omega
      subst e
      have hz : ¬(E.length : Int) < (E.length : Int) := by omega
      obtain ⟨go, co, hvo⟩ := HR.out.form
      subst hvo
      rename World => w2
      go_wp2
      go_loopw [8, 9] (fun s8 s9 wr => ∃ i : Nat, i ≤ E.length ∧ s9 = .int .i64 i ∧ Hid (IR w2 wr s8 (firK E a i))) (fun _ s9 _ => E.length - (intOf s9).toNat)
      case atStart => exact ⟨0, Nat.zero_le _, rfl, IR.nil (Below.refl _ _)⟩
      case round =>
        obtain ⟨i, hiE, rfl, HRF⟩ := hrel
        have HB12 := Lib.hid (HR.out.low.trans (HRF.out.low.mono HR.out.low.size))
        by_cases hlt : i < E.length
        · obtain ⟨g, rfl, y0, y1⟩ := HC.out i _ hlt HB12.out
          have HST := Lib.hid (HFS.out i hlt)
          have HLK := Lib.hid (HFL.out i)
          generalize (E.getD i (0, 0)).1 = x at *
          generalize (E.getD i (0, 0)).2 = y at *
          have hz : (i : Int) < (E.length : Int) := by omega
          have hi0 : (0 : Int) ≤ (i : Int) := by omega
          have hw1 : wrap64 ((i : Int) + 1) = (i : Int) + 1 := by have := HEL.out; unfold wrap64; omega
          obtain ⟨gl, cl, hv⟩ := HRF.out.form
          subst hv
          rename World => wr
          by_cases hx : y = a
          · subst hx
            have HST2 : Hid (firK E y (i + 1) = firK E y i ++ [x]) := by have := HST.out; rw [if_pos rfl] at this; exact this
            go_wp2_with (at_builtin; refine wpList_append_lies _ rfl _ _ 72 rfl w2.heap.size 3 i0 (.int .i64 0) 1 8 Tryz.underlying72 hi hz0' hz1' hz2' rfl (by decide) _ (firK E y i).length (cellsK encI (firK E y i)) rfl ?qo ⟨wr.heap.size, 0, none⟩ 1 1 (encI x) rfl ?qc1 ?qc2 ?qc3 (by decide) ?qc4 ?qc5 ?qc6 (wr.heap.size + 1) (by simp) ?_)
            case qo => exact HRF.out.own.alloc _
            case qc1 => rfl
            case qc2 => first | exact cells_new wr (encI x) 3 | exact fun _ _ h => h
            case qc3 => exact encI_one _
            case qc4 => have := HLK.out; have := HEL.out; unfold maxLen; omega
            case qc5 => have := HLK.out; have := HEL.out; omega
            case qc6 => have := HRF.out.low.size; simp; omega
            intro g6 c6 w3 ho2 hg2 hat2 hlt2
            have HS2 : Hid (IR w2 w3 (.slice (some ⟨g6, 0, none⟩) ((firK E y i).length + 1) c6) (firK E y (i + 1))) := by
              unfold Hid
              rw [HST2.out]
              exact HRF.out.grow (n := (firK E y i).length + 1) ((Below.refl _ _).alloc (Nat.le_refl _) _) hg2 (by simp) (by rw [cellsK_append, cellsK_one]; exact ho2)
            clear ho2 hg2 hat2 hlt2
            go_wp2
            go_roundw
            case rel => exact ⟨i + 1, by omega, by (try rw [hw1]); rfl, HS2.out⟩
            case measure => (try rw [hw1]); simp only [intOf]; omega
          · have HS2 : Hid (IR w2 wr (.slice gl (firK E a i).length cl) (firK E a (i + 1))) := by
              have := HST.out; rw [if_neg hx, List.append_nil] at this; unfold Hid; rw [this]; exact HRF.out
            go_wp2
            go_roundw
            case rel => exact ⟨i + 1, by omega, by (try rw [hw1]); rfl, HS2.out⟩
            case measure => (try rw [hw1]); simp only [intOf]; omega
        · have e : i = E.length := by omega
          subst e
          have hz : ¬(E.length : Int) < (E.length : Int) := by omega
          obtain ⟨gf, cf, hvf⟩ := HRF.out.form
          subst hvf
          have HBW := Lib.hid (HB1.out.trans (HB12.out.mono HB1.out.size))
          have HOW := Lib.hid (HR.out.below HRF.out.low)
          have HLO := Lib.hid (HOL.out E.length)
          have HLF := Lib.hid (HFL.out E.length)
          rename World => w3
          generalize outK E a E.length = OL at *
          generalize firK E a E.length = FL at *
          by_cases hO : OL.length = 0
          · have hO2 : OL = [] := List.length_eq_zero_iff.1 hO
            subst hO2
            have hcf : FL.length ≤ cf := by
              rcases HRF.out.own.2 with ⟨e, h0⟩ | ⟨_, _, _, e, _, _, h, _⟩
              · omega
              · injection e with e1 e2 e3
                rw [e3]; exact h
            try simp only [List.length_nil]
            go_wp2_with (at_builtin; refine wpList_append_zero rfl _ _ 72 rfl 3 i0 Tryz.underlying72 hi _ _ _ rfl hcf _ _ rfl ?_)
            go_ret
            refine ⟨_, rfl, ?_⟩
            have e2 : FL = R := by have := HSP.out; rw [List.append_nil] at this; exact this
            rw [← e2]
            exact ⟨ownsRow_down HB1.out.size (ownsRow_down HR.out.low.size HRF.out.own), HBW.out⟩
          · obtain ⟨bo, hgo⟩ : ∃ b, go = some ⟨b, 0, none⟩ := by
              rcases HOW.out.own.2 with ⟨_, h0⟩ | ⟨b, _, _, e, _⟩
              · exact absurd h0 hO
              · cases e; exact ⟨b, rfl⟩
            subst hgo
            have HCE : Hid (∀ j x, (cellsK encI OL)[j]? = some x → w3.cell? ⟨bo, j, none⟩ = some x) := fun j x hj => by
              have hl := (List.getElem?_eq_some_iff.1 hj).1
              rw [HOW.out.own.cellAt j (by rw [cellsI_len] at hl; omega)]; exact hj
            go_wp2_with (at_builtin; refine wpList_append_own_at _ rfl _ _ 72 rfl w2.heap.size 3 i0 (.int .i64 0) 1 8 Tryz.underlying72 hi hz0' hz1' hz2' rfl (by decide) _ FL.length (cellsK encI FL) rfl ?qo ⟨bo, 0, none⟩ OL.length co (cellsK encI OL) rfl ?qc1 ?qc2 ?qc3 ?qc4 ?qc5 ?qc6 ?_)
            case qo => exact HRF.out.own
            case qc1 => first | (rw [cellsI_len]; done) | (rw [cellsI_len, Nat.mul_one])
            case qc2 => intro j x hj; first | exact HCE.out j x hj | (rw [Addr.add_lit, Nat.zero_add]; exact HCE.out j x hj)
            case qc3 => intro x hx; obtain ⟨y, _, hy⟩ := List.mem_flatMap.1 hx; exact encI_one y x hy
            case qc4 => have := HLO.out; have := HLF.out; have := HEL.out; unfold maxLen; omega
            case qc5 => have := HLO.out; have := HLF.out; have := HEL.out; omega
            case qc6 => exact HRF.out.low.size
            intro v4 w4 ho4 hg4 hnil4 hat4
            have HS4 : Hid (IR w2 w4 v4 (FL ++ OL)) := HRF.out.grow (n := FL.length + OL.length) (Below.refl _ _) hg4 (by simp) (by rw [cellsK_append]; exact ho4)
            clear ho4 hg4 hnil4 hat4
            go_wp2
            go_ret
            refine ⟨_, rfl, ?_⟩
            rw [← HSP.out]
            have hb2 : Below w.heap.size w w2 := HB1.out.trans (HR.out.low.mono HB1.out.size)
            exact ⟨ownsRow_down hb2.size HS4.out.own, hb2.trans (HS4.out.low.mono hb2.size)⟩

theorem spokes15_k {w : World} {B xb : Nat} {P : List Pt} {ad : Option Addr} {cap : Nat} {T : List Tri3} {vT : Value} {S : List Seg3} {vS : Value} (h : RMs w B xb P ad cap T vT S vS) (hT : T.length ≤ 300000) {E : List (Int × Int)} (hE : ∀ L, PSrt (allT edT T) (allT edT T).length L → L = E) (hEl : E.length ≤ 1000000) (a : Int) :
    Calls Tryz.prog 85 #[.pointer (some ⟨xb, 0, none⟩), .int .i64 a] w fun r w' => ∃ ad cap, r = .returned (.slice ad (sp15L E a).length cap) ∧ KCells encI w' ad (sp15L E a) ∧ Below w.heap.size w w' := by
  refine (spokes15 h hT hE hEl a).mono ?_
  rintro r w' ⟨v, rfl, HI⟩
  obtain ⟨ad, cap, rfl, hc, _⟩ := owns_kcells HI.out.own
  exact ⟨ad, cap, rfl, hc, HI.out.low⟩

end Go.Proofs.YtdoaniccefdkaaaGreatDoor
