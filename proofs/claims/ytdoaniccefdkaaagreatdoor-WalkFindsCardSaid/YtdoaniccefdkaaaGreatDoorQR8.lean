/- trivetref16.Places. -/
import Derived.Test.YtdoaniccefdkaaaGreatDoorQR7
set_option linter.all false
namespace Go.Proofs.YtdoaniccefdkaaaGreatDoor
open Go.RowKit Tvf Go.Maps Go.WideMaps

theorem infoPlc : (Tryz.prog.info? 91).map (fun i => (i.zero, i.size, i.bytes)) = some (some (.agg #[.int .u8 0, .int .i64 0, .int .i64 0, .int .i64 0]), 4, 32) := by kernel_rfl
def encPl (x : Plc) : List Value := [.int .u8 x.k, .int .i64 x.a, .int .i64 x.b, .int .i64 x.c]
theorem encPl_len (x : Plc) : (encPl x).length = 4 := rfl
theorem encPl_one (x : Plc) : ∀ u ∈ encPl x, u.oneCell' = true := by
  intro u hu
  simp only [encPl, List.mem_cons, List.not_mem_nil, or_false] at hu
  rcases hu with rfl | rfl | rfl | rfl <;> rfl

/-- a row of places, made since w -/
structure LR (w wr : World) (v : Value) (L : List Plc) : Prop where
  own : wr.ownsRow w.heap.size 91 4 v L.length (cellsK encPl L)
  low : Below w.heap.size w wr
theorem LR.nil {w wr : World} (h : Below w.heap.size w wr) : LR w wr (.slice none 0 0) [] := ⟨World.ownsRow_nil _ _ _ _, h⟩
theorem LR.grow {w wr wa w2 : World} {v v' : Value} {L L' : List Plc} {n : Nat} (h : LR w wr v L) (ha : Below wr.heap.size wr wa) (hg : wa.grownBy w2 v.ownBlock) (hn : n = L'.length) (ho : w2.ownsRow w.heap.size 91 4 v' n (cellsK encPl L')) : LR w w2 v' L' := by
  subst hn
  refine ⟨ho, ?_⟩
  have h1 : Below w.heap.size w wa := h.low.trans (ha.mono h.low.size)
  exact h1.grown hg h1.size (fun i e => (h.own.lt i e).1)
theorem LR.form {w wr : World} {v : Value} {L : List Plc} (h : LR w wr v L) : ∃ g c, v = .slice g L.length c := by
  rcases h.own.2 with ⟨rfl, h0⟩ | ⟨g, cp, cur, rfl, _⟩
  · exact ⟨none, 0, by rw [h0]⟩
  · exact ⟨_, _, rfl⟩
theorem LR.below {w wr w' : World} {v : Value} {L : List Plc} (h : LR w wr v L) (hb : Below wr.heap.size wr w') : LR w w' v L :=
  ⟨ownsRow_same h.own (fun g e => hb.block g (h.own.lt g e).2), h.low.trans (hb.mono h.low.size)⟩

theorem plP_step (l : List Pt) (G : List Tri3) (p : Pt) (i : Nat) : plP l G p (i + 1) = plP l G p i ++ (if (corB G i && aliB (l.getD i (0, 0)) p) = true then [⟨3, i, 0, 0⟩] else []) := by
  unfold plP
  rw [List.range_succ, List.filter_append, List.map_append, List.filter_cons, List.filter_nil]
  split <;> rfl
theorem plP_len (l : List Pt) (G : List Tri3) (p : Pt) (i : Nat) : (plP l G p i).length ≤ i := by
  unfold plP
  rw [List.length_map]
  exact Nat.le_trans (List.length_filter_le _ _) (by rw [List.length_range]; omega)
/-- up to a triangle, and an edge of it -/
def plK (l : List Pt) (G : List Tri3) (p : Pt) (i k : Nat) : List Plc := plP l G p l.length ++ (G.take i).flatMap (plT l p) ++ (List.range k).flatMap (plE l p (G.getD i (0, 0, 0)))
theorem plK_00 (l : List Pt) (G : List Tri3) (p : Pt) : plK l G p 0 0 = plP l G p l.length := by unfold plK; simp
theorem plK_step (l : List Pt) (G : List Tri3) (p : Pt) (i k : Nat) : plK l G p i (k + 1) = plK l G p i k ++ plE l p (G.getD i (0, 0, 0)) k := by
  unfold plK
  rw [List.range_succ, List.flatMap_append, ← List.append_assoc]
  simp
theorem plK_next (l : List Pt) {G : List Tri3} (p : Pt) {i : Nat} (hi : i < G.length) : plK l G p (i + 1) 0 = plK l G p i 3 ++ plI l p (G.getD i (0, 0, 0)) := by
  have e : G.take (i + 1) = G.take i ++ [G.getD i (0, 0, 0)] := by
    rw [List.take_add_one, List.getElem?_eq_getElem hi, List.getD_eq_getElem?_getD, List.getElem?_eq_getElem hi]; rfl
  unfold plK
  rw [e, List.flatMap_append, List.flatMap_cons, List.flatMap_nil, List.append_nil]
  simp only [List.range_zero, List.flatMap_nil, List.append_nil]
  unfold plT
  simp only [List.append_assoc]
theorem plK_all (l : List Pt) (G : List Tri3) (p : Pt) : plK l G p G.length 0 = plL l G p := by
  unfold plK plL
  rw [List.take_length]; simp
theorem plE_len (l : List Pt) (p : Pt) (t : Tri3) (k : Nat) : (plE l p t k).length ≤ 1 := by unfold plE; split <;> simp
theorem plI_len (l : List Pt) (p : Pt) (t : Tri3) : (plI l p t).length ≤ 1 := by unfold plI; split <;> simp
theorem plT_len (l : List Pt) (p : Pt) (t : Tri3) : (plT l p t).length ≤ 4 := by
  unfold plT
  have h0 := plE_len l p t 0
  have h1 := plE_len l p t 1
  have h2 := plE_len l p t 2
  have h3 := plI_len l p t
  simp [List.range, List.range.loop]
  omega
theorem flatT_len (l : List Pt) (p : Pt) : ∀ G : List Tri3, (G.flatMap (plT l p)).length ≤ 4 * G.length
  | [] => by simp
  | t :: r => by
    rw [List.flatMap_cons, List.length_append, List.length_cons]
    have := plT_len l p t
    have := flatT_len l p r
    omega
theorem plK_len (l : List Pt) (G : List Tri3) (p : Pt) (i k : Nat) (hk : k ≤ 3) : (plK l G p i k).length ≤ l.length + 4 * G.length + 3 := by
  unfold plK
  have h1 := plP_len l G p l.length
  have h2 := flatT_len l p (G.take i)
  have h3 : ((List.range k).flatMap (plE l p (G.getD i (0, 0, 0)))).length ≤ 3 := by
    have h0 := plE_len l p (G.getD i (0, 0, 0)) 0
    have h1 := plE_len l p (G.getD i (0, 0, 0)) 1
    have h2 := plE_len l p (G.getD i (0, 0, 0)) 2
    have : k = 0 ∨ k = 1 ∨ k = 2 ∨ k = 3 := by omega
    generalize G.getD i (0, 0, 0) = t at *
    rcases this with rfl | rfl | rfl | rfl <;> simp [List.range, List.range.loop] <;> omega
  rw [List.length_take] at h2
  rw [List.length_append, List.length_append]
  omega

set_option maxRecDepth 100000 in
set_option maxHeartbeats 16000000 in
theorem places16 {w : World} {l : List Pt} {ap : Option Addr} {cp : Nat} {G : List Tri3} {at_ : Option Addr} {ct : Nat} {p : Pt} (hl : PCells w ap l) (hg : KCells encT w at_ G) (h64 : ∀ q, q ∈ l → PtO q) (hp : PtO p) (hr : ∀ t, t ∈ G → ∀ k, k < 3 → 0 ≤ tvT t k ∧ tvT t k < l.length) (hne : ∀ t, t ∈ G → t.1 ≠ t.2.1 ∧ t.2.1 ≠ t.2.2 ∧ t.1 ≠ t.2.2) (hn : l.length ≤ 1000) (hG : G.length ≤ 1000) :
    Calls Tryz.prog 56 #[.slice ap l.length cp, .slice at_ G.length ct, V p] w fun r w' => ∃ v, r = .returned v ∧ Hid (LR w w' v (plL l G p)) := by
  obtain ⟨i0, hi, hz0', hz1', hz2'⟩ := info_parts infoPlc
  have HCO : Hid (∀ W, Below w.heap.size w W → Calls Tryz.prog 126 #[.slice ap l.length cp, .slice at_ G.length ct] W fun r w' => ∃ g, r = .returned (.slice (some ⟨g, 0, none⟩) l.length l.length) ∧ Hid (BRow w' g l.length (corB G)) ∧ Below W.heap.size W w') := fun W hb => corners16 ap cp ct (hg.below hb) hr hn (by omega)
  have HAL : Hid (∀ W (i : Nat), Calls Tryz.prog 127 #[.agg #[.float .f64 (l.getD i (0, 0)).1, .float .f64 (l.getD i (0, 0)).2], .agg #[.float .f64 p.1, .float .f64 p.2]] W fun r w' => r = .returned (.bool (aliB (l.getD i (0, 0)) p)) ∧ Below W.heap.size W w') := fun W i => alike16 _ p W
  have mem : ∀ {i : Nat}, i < l.length → PtO (l.getD i (0, 0)) := fun {i} hi => h64 _ (by rw [List.getD_eq_getElem?_getD, List.getElem?_eq_getElem hi]; exact List.getElem_mem hi)
  have HBT : Hid (∀ W (i j : Nat), i < l.length → j < l.length → Calls Tryz.prog 128 #[.agg #[.float .f64 (l.getD i (0, 0)).1, .float .f64 (l.getD i (0, 0)).2], .agg #[.float .f64 (l.getD j (0, 0)).1, .float .f64 (l.getD j (0, 0)).2], .agg #[.float .f64 p.1, .float .f64 p.2]] W fun r w' => r = .returned (.bool (btwB (ptP l i) (ptP l j) p)) ∧ Below W.heap.size W w') := fun W i j hi hj => by
    have := btw16 (mem hi) (mem hj) hp W
    unfold ptP; rw [Int.toNat_natCast, Int.toNat_natCast]; exact this
  have HIN : Hid (∀ W (x y z : Nat), Below w.heap.size w W → x < l.length → y < l.length → z < l.length → Calls Tryz.prog 129 #[.slice ap l.length cp, .agg #[.int .i64 x, .int .i64 y, .int .i64 z], .agg #[.float .f64 p.1, .float .f64 p.2]] W fun r w' => r = .returned (.bool (insB (ptP l x) (ptP l y) (ptP l z) p)) ∧ Below W.heap.size W w') := fun W x y z hb hx hy hz => by
    have := inside16 (w := W) (hl.below hb) (cp := cp) hx hy hz h64 hp
    unfold ptP; rw [Int.toNat_natCast, Int.toNat_natCast, Int.toNat_natCast]; exact this
  have HTR : Hid (∀ i, i < G.length → ∃ x y z : Nat, G.getD i (0, 0, 0) = ((x : Int), (y : Int), (z : Int)) ∧ x < l.length ∧ y < l.length ∧ z < l.length ∧ ∀ W, Calls Tryz.prog 130 #[.agg #[.int .i64 x, .int .i64 y, .int .i64 z]] W fun r w' => r = .returned (.agg #[.int .i64 (own3 ((x : Int), (y : Int), (z : Int))).1, .int .i64 (own3 ((x : Int), (y : Int), (z : Int))).2.1, .int .i64 (own3 ((x : Int), (y : Int), (z : Int))).2.2]) ∧ Below W.heap.size W w') := fun i hi => by
    have hm : G.getD i (0, 0, 0) ∈ G := by rw [List.getD_eq_getElem?_getD, List.getElem?_eq_getElem hi]; exact List.getElem_mem hi
    have r0 := hr _ hm 0 (by omega)
    have r1 := hr _ hm 1 (by omega)
    have r2 := hr _ hm 2 (by omega)
    have n0 := hne _ hm
    generalize G.getD i (0, 0, 0) = t at *
    obtain ⟨x, y, z⟩ := t
    unfold tvT at r0 r1 r2
    simp only [] at r0 r1 r2 n0
    obtain ⟨x, rfl⟩ := Int.eq_ofNat_of_zero_le r0.1
    obtain ⟨y, rfl⟩ := Int.eq_ofNat_of_zero_le r1.1
    obtain ⟨z, rfl⟩ := Int.eq_ofNat_of_zero_le r2.1
    exact ⟨x, y, z, rfl, by simpa using r0.2, by simpa using r1.2, by simpa using r2.2, fun W => own16 (t := ((x : Int), (y : Int), (z : Int))) n0 W⟩
  have HGC : Hid (∀ W i, Below w.heap.size w W → i < G.length → ∃ b, at_ = some ⟨b, 0, none⟩ ∧ W.cell? ⟨b, i * 3, none⟩ = some (.int .i64 (G.getD i (0, 0, 0)).1) ∧ W.cell? ⟨b, i * 3 + 1, none⟩ = some (.int .i64 (G.getD i (0, 0, 0)).2.1) ∧ W.cell? ⟨b, i * 3 + 2, none⟩ = some (.int .i64 (G.getD i (0, 0, 0)).2.2)) := fun W i hb hi => by
    obtain ⟨b, e, _, x0, x1, x2⟩ := (hg.below hb).tri hi
    exact ⟨b, e, x0, x1, x2⟩
  have HPC : Hid (∀ W i, Below w.heap.size w W → i < l.length → ∃ b o, ap = some ⟨b, o, none⟩ ∧ W.cell? ⟨b, o + i * 2, none⟩ = some (.float .f64 (l.getD i (0, 0)).1) ∧ W.cell? ⟨b, o + i * 2 + 1, none⟩ = some (.float .f64 (l.getD i (0, 0)).2)) := fun W i hb hi => by
    obtain ⟨b, o, e, _, hc⟩ := (hl.below hb) (by omega)
    exact ⟨b, o, e, (hc i hi).1, (hc i hi).2⟩
  have HN : Hid (l.length ≤ 1000 ∧ G.length ≤ 1000) := ⟨hn, hG⟩
  have HSP := Lib.hid (fun i => plP_step l G p i)
  have HLP := Lib.hid (fun i => plP_len l G p i)
  have HSK := Lib.hid (fun i k => plK_step l G p i k)
  have HNK := Lib.hid (fun i (hi : i < G.length) => plK_next l p hi)
  have HLK := Lib.hid (fun i k hk => plK_len l G p i k hk)
  have H00 := Lib.hid (plK_00 l G p)
  have HALL := Lib.hid (plK_all l G p)
  obtain ⟨W0, hW0⟩ : ∃ W0 : World, W0 = w.alloc (.cells #[.float .f64 p.1, .float .f64 p.2] 52) := ⟨_, rfl⟩
  have HB0 : Hid (Below w.heap.size w W0) := by rw [hW0]; exact (Below.refl _ w).alloc (Nat.le_refl _) _
  have HPB : Hid (∀ W, Below W0.heap.size W0 W → W.cell? ⟨w.heap.size, 0, none⟩ = some (.float .f64 p.1) ∧ W.cell? ⟨w.heap.size, 1, none⟩ = some (.float .f64 p.2)) := fun W hb => by
    have h2 := new2 w (.float .f64 p.1) (.float .f64 p.2) 52
    rw [hW0] at hb
    exact ⟨cell_keep h2.1 hb, cell_keep h2.2 hb⟩
  have HWW := Lib.hid hW0
  clear hl hg h64 hp hr hne hn hG mem hW0
  unfold V
  obtain ⟨t3, t4⟩ := HPB.out _ (Below.refl _ _)
  go_enter Tryz.func56, Tryz.ntmps56
  go_upto_region 1 with fail
  rw [← HWW.out]
  go_wp2_with (go_at_call 126; (with_reducible refine (HCO.out _ HB0.out).mono ?_); rintro r w1 ⟨gb, rfl, HBR, hb1⟩; have C1 := Lib.hid hb1; have B1 := Lib.hid (bseq HB0.out hb1); clear hb1 t3 t4; obtain ⟨t3, t4⟩ := HPB.out _ C1.out)
  have HBRW := Lib.hid (fun W (hb : Below w1.heap.size w1 W) (i : Nat) (hi : i < l.length) => ((HBR.out.below hb).2 i hi).1)
  have HBW := Lib.hid (fun W (hb : Below w1.heap.size w1 W) => bseq B1.out hb)
  have HCW := Lib.hid (fun W (hb : Below w1.heap.size w1 W) => bseq C1.out hb)
  clear HBR HCO t3 t4
  go_loopw [7, 9] (fun s7 s9 wr => ∃ i : Nat, i ≤ l.length ∧ s9 = .int .i64 i ∧ Hid (LR w1 wr s7 (plP l G p i))) (fun _ s9 _ => l.length - (intOf s9).toNat)
  case atStart => exact ⟨0, Nat.zero_le _, rfl, LR.nil (Below.refl _ _)⟩
  case round =>
    obtain ⟨i, hiL, rfl, HR⟩ := hrel
    rename World => wr
    obtain ⟨gl, cl, hv⟩ := HR.out.form
    subst hv
    by_cases hlt : i < l.length
    · obtain ⟨bp, op, rfl, q0, q1⟩ := HPC.out _ i (HBW.out _ HR.out.low) hlt
      obtain ⟨t3, t4⟩ := HPB.out _ (HCW.out _ HR.out.low)
      have hon := HBRW.out _ HR.out.low i hlt
      have HST := Lib.hid (HSP.out i)
      have HLE := Lib.hid (HLP.out i)
      have HA := Lib.hid (fun W => HAL.out W i)
      generalize (l.getD i (0, 0)) = li at *
      generalize aliB li p = y at *
      generalize corB G (i : Int) = x at *
      have hz : (i : Int) < (l.length : Int) := by omega
      have hi0 : (0 : Int) ≤ (i : Int) := by omega
      have hw1 : wrap64 ((i : Int) + 1) = (i : Int) + 1 := by have := HN.out; unfold wrap64; omega
      cases x
      · have HS2 : Hid (plP l G p (i + 1) = plP l G p i) := by have := HST.out; rw [Bool.false_and, if_neg (by simp), List.append_nil] at this; exact this
        go_upto_region 6 with fail
        go_quiet (fail)
        have HRq := Lib.hid (HR.out.below (below_q15 (Below.refl _ _) nq))
        go_wp2
        go_roundw
        case rel => exact ⟨i + 1, by omega, by (try rw [hw1]); rfl, by rw [HS2.out]; exact HRq.out⟩
        case measure => (try rw [hw1]); simp only [intOf]; omega
      · have HRd := Lib.hid (HR.out.below ((Below.refl _ wr).drew))
        have HSX : Hid (∀ W, Below wr.heap.size wr W → W.cell? ⟨gb, i, none⟩ = some (.bool true) ∧ (W.cell? ⟨bp, op + i * 2, none⟩ = some (.float .f64 li.1) ∧ W.cell? ⟨bp, op + i * 2 + 1, none⟩ = some (.float .f64 li.2)) ∧ W.cell? ⟨w.heap.size, 0, none⟩ = some (.float .f64 p.1) ∧ W.cell? ⟨w.heap.size, 1, none⟩ = some (.float .f64 p.2)) := fun W hb => ⟨cell_keep hon hb, ⟨cell_keep q0 hb, cell_keep q1 hb⟩, cell_keep t3 hb, cell_keep t4 hb⟩
        have n0 := HSX.out wr.drew ((Below.refl _ wr).drew)
        clear hon q0 q1 t3 t4
        go_upto_region 6 with fail
        rename (∀ (a : Act) (w : World), Code.wp _ _ _ a w → _) => hcA
        have HCA := Lib.hid (fun (_ : Unit) => hcA)
        clear hcA
        cases y
        · have HS2 : Hid (plP l G p (i + 1) = plP l G p i) := by have := HST.out; rw [Bool.and_false, if_neg (by simp), List.append_nil] at this; exact this
          go_region_held3 (fun W => W.cell? ⟨gb, i, none⟩ = some (.bool true) ∧ (W.cell? ⟨bp, op + i * 2, none⟩ = some (.float .f64 li.1) ∧ W.cell? ⟨bp, op + i * 2 + 1, none⟩ = some (.float .f64 li.2)) ∧ W.cell? ⟨w.heap.size, 0, none⟩ = some (.float .f64 p.1) ∧ W.cell? ⟨w.heap.size, 1, none⟩ = some (.float .f64 p.2)) (first | exact n0 | exact n1)
            (first | (go_at_call 127; (with_reducible refine (HA.out _).mono ?_); rintro r w2 ⟨rfl, b2⟩; have HR2 := Lib.hid (HRd.out.below b2); have n1 := HSX.out w2 (bseq ((Below.refl _ wr).drew) b2)))
          have hcA := HCA.out ()
          clear n0 n1
          go_wp2
          go_roundw
          case rel => exact ⟨i + 1, by omega, by (try rw [hw1]); rfl, by rw [HS2.out]; exact HR2.out⟩
          case measure => (try rw [hw1]); simp only [intOf]; omega
        · have HS2 : Hid (plP l G p (i + 1) = plP l G p i ++ [⟨3, i, 0, 0⟩]) := by have := HST.out; rw [Bool.and_self, if_pos rfl] at this; exact this
          go_region_held3 (fun W => W.cell? ⟨gb, i, none⟩ = some (.bool true) ∧ (W.cell? ⟨bp, op + i * 2, none⟩ = some (.float .f64 li.1) ∧ W.cell? ⟨bp, op + i * 2 + 1, none⟩ = some (.float .f64 li.2)) ∧ W.cell? ⟨w.heap.size, 0, none⟩ = some (.float .f64 p.1) ∧ W.cell? ⟨w.heap.size, 1, none⟩ = some (.float .f64 p.2)) (first | exact n0 | exact n1)
            (first | (go_at_call 127; (with_reducible refine (HA.out _).mono ?_); rintro r w2 ⟨rfl, b2⟩; have HR2 := Lib.hid (HRd.out.below b2); have n1 := HSX.out w2 (bseq ((Below.refl _ wr).drew) b2)))
          have hcA := HCA.out ()
          clear n0 n1
          go_wp2_with (first
            | (at_builtin; refine wpList_append_lies _ rfl _ _ 98 rfl w1.heap.size 91 i0 (.agg #[.int .u8 0, .int .i64 0, .int .i64 0, .int .i64 0]) 4 32 Tryz.underlying98 hi hz0' hz1' hz2' rfl (by decide) _ (plP l G p i).length (cellsK encPl (plP l G p i)) rfl ?qo ⟨w2.heap.size, 0, none⟩ 1 1 (encPl ⟨3, i, 0, 0⟩) rfl ?qc1 ?qc2 ?qc3 (by decide) ?qc4 ?qc5 ?qc6 (w2.heap.size + 1) (by simp) ?_))
          case qo => exact HR2.out.own.alloc _
          case qc1 => rfl
          case qc2 => first | exact cells_new w2 (encPl ⟨3, i, 0, 0⟩) 91 | exact fun _ _ h => h
          case qc3 => exact encPl_one _
          case qc4 => have := HLE.out; have := HN.out; unfold maxLen; omega
          case qc5 => have := HLE.out; have := HN.out; omega
          case qc6 => have := HR2.out.low.size; simp; omega
          intro g6 c6 w3 ho2 hg2 hat2 hlt2
          have HS3 : Hid (LR w1 w3 (.slice (some ⟨g6, 0, none⟩) ((plP l G p i).length + 1) c6) (plP l G p (i + 1))) := by
            unfold Hid
            rw [HS2.out]
            exact HR2.out.grow (n := (plP l G p i).length + 1) ((Below.refl _ _).alloc (Nat.le_refl _) _) hg2 (by simp) (by rw [cellsK_append, cellsK_one]; exact ho2)
          clear ho2 hg2 hat2 hlt2
          go_wp2
          go_roundw
          case rel => exact ⟨i + 1, by omega, by (try rw [hw1]); rfl, HS3.out⟩
          case measure => (try rw [hw1]); simp only [intOf]; omega
    · have e : i = l.length := by omega
      subst e
      have hz : ¬(l.length : Int) < (l.length : Int) := by omega
      clear HSP HLP HAL HBRW
      go_wp2
      go_loopw [7, 10] (fun s7 s10 wx => ∃ i : Nat, i ≤ G.length ∧ s10 = .int .i64 i ∧ Hid (LR w1 wx s7 (plK l G p i 0))) (fun _ s10 _ => G.length - (intOf s10).toNat)
      case atStart => exact ⟨0, Nat.zero_le _, rfl, (by rw [H00.out]; exact HR.out)⟩
      case round =>
        clear HR hlt hz hiL
        obtain ⟨i, hiG, rfl, HR⟩ := hrel
        by_cases hlt : i < G.length
        · have hz : (i : Int) < (G.length : Int) := by omega
          have hi0 : (0 : Int) ≤ (i : Int) := by omega
          have hw1 : wrap64 ((i : Int) + 1) = (i : Int) + 1 := by have := HN.out; unfold wrap64; omega
          obtain ⟨x, y, z, ht, hx, hy, hzz, hown⟩ := HTR.out i hlt
          have HOW := Lib.hid hown
          have HXL : Hid (x < l.length ∧ y < l.length ∧ z < l.length) := ⟨hx, hy, hzz⟩
          have HGI := Lib.hid (fun W hb => HGC.out W i hb hlt)
          have HSI := Lib.hid (fun k => HSK.out i k)
          have HNI := Lib.hid (HNK.out i hlt)
          have HLI := Lib.hid (fun k hk => HLK.out i k hk)
          rw [ht] at HGI HSI HNI
          dsimp only at HGI
          have HTV : Hid (∀ k, k < 3 → ∃ u v : Nat, tvT ((x : Int), (y : Int), (z : Int)) k = u ∧ tvT ((x : Int), (y : Int), (z : Int)) ((k + 1) % 3) = v ∧ u < l.length ∧ v < l.length) := fun k hk => by
            have h4 : k = 0 ∨ k = 1 ∨ k = 2 := by omega
            rcases h4 with rfl | rfl | rfl
            · exact ⟨x, y, rfl, rfl, hx, hy⟩
            · exact ⟨y, z, rfl, rfl, hy, hzz⟩
            · exact ⟨z, x, rfl, rfl, hzz, hx⟩
          have HTC : Hid (∀ W k, Below w.heap.size w W → k < 3 → ∃ b, at_ = some ⟨b, 0, none⟩ ∧ W.cell? ⟨b, i * 3 + k, none⟩ = some (.int .i64 (tvT ((x : Int), (y : Int), (z : Int)) k))) := fun W k hb hk => by
            obtain ⟨b, e, x0, x1, x2⟩ := HGI.out W hb
            refine ⟨b, e, ?_⟩
            have h4 : k = 0 ∨ k = 1 ∨ k = 2 := by omega
            rcases h4 with rfl | rfl | rfl
            · exact x0
            · exact x1
            · exact x2
          clear hx hy hzz hown ht
          go_wp2
          go_loopw [7, 11] (fun s7 s11 wy => ∃ k : Nat, k ≤ 3 ∧ s11 = .int .i64 k ∧ Hid (LR w1 wy s7 (plK l G p i k))) (fun _ s11 _ => 3 - (intOf s11).toNat)
          case atStart => exact ⟨0, by omega, rfl, HR.out⟩
          case round =>
            clear HR
            obtain ⟨k, hk, rfl, HR⟩ := hrel
            rename World => wy
            obtain ⟨gl, cl, hv⟩ := HR.out.form
            subst hv
            by_cases hk3 : k < 3
            · have hkz : (k : Int) < 3 := by omega
              have hk0 : (0 : Int) ≤ (k : Int) := by omega
              have hw2 : wrap64 ((k : Int) + 1) = (k : Int) + 1 := by unfold wrap64; omega
              have hm1 : ((k : Int) + 1).tmod 3 = (((k + 1) % 3 : Nat) : Int) := by rw [Int.tmod_eq_emod_of_nonneg (by omega)]; omega
              have hy0 : (0 : Int) ≤ (((k + 1) % 3 : Nat) : Int) := by omega
              have hy1 : (((k + 1) % 3 : Nat) : Int) < 3 := by omega
              obtain ⟨u, v, hu, hv, hul, hvl⟩ := HTV.out k hk3
              obtain ⟨b, rfl, a0⟩ := HTC.out _ k (HBW.out _ HR.out.low) hk3
              obtain ⟨_, e1, a1⟩ := HTC.out _ ((k + 1) % 3) (HBW.out _ HR.out.low) (by omega)
              cases e1
              obtain ⟨bp, op, rfl, q0, q1⟩ := HPC.out _ u (HBW.out _ HR.out.low) hul
              obtain ⟨_, _, e1, q2, q3⟩ := HPC.out _ v (HBW.out _ HR.out.low) hvl
              cases e1
              obtain ⟨t3, t4⟩ := HPB.out _ (HCW.out _ HR.out.low)
              have HBC := Lib.hid (fun W => HBT.out W u v hul hvl)
              have HST := Lib.hid (HSI.out k)
              have HLE := Lib.hid (HLI.out k hk)
              have HPE : Hid (plE l p ((x : Int), (y : Int), (z : Int)) k = if btwB (ptP l u) (ptP l v) p = true then [⟨2, min (u : Int) v, max (u : Int) v, 0⟩] else []) := by
                unfold Hid plE; rw [hu, hv, minI_min, maxI_max]
              rw [HPE.out] at HST
              rw [hu] at a0
              rw [hv] at a1
              clear hu hv HPE
              have hu0 : (0 : Int) ≤ (u : Int) := by omega
              have hv0 : (0 : Int) ≤ (v : Int) := by omega
              have huz : (u : Int) < (l.length : Int) := by omega
              have hvz : (v : Int) < (l.length : Int) := by omega
              generalize btwB (ptP l u) (ptP l v) p = bt at *
              generalize l.getD u (0, 0) = pu at *
              generalize l.getD v (0, 0) = pv at *
              generalize (k + 1) % 3 = k1 at *
              have HSX : Hid (∀ W, Below wy.heap.size wy W → (W.cell? ⟨bp, op + u * 2, none⟩ = some (.float .f64 pu.1) ∧ W.cell? ⟨bp, op + u * 2 + 1, none⟩ = some (.float .f64 pu.2)) ∧ (W.cell? ⟨bp, op + v * 2, none⟩ = some (.float .f64 pv.1) ∧ W.cell? ⟨bp, op + v * 2 + 1, none⟩ = some (.float .f64 pv.2)) ∧ W.cell? ⟨w.heap.size, 0, none⟩ = some (.float .f64 p.1) ∧ W.cell? ⟨w.heap.size, 1, none⟩ = some (.float .f64 p.2)) := fun W hb => ⟨⟨cell_keep q0 hb, cell_keep q1 hb⟩, ⟨cell_keep q2 hb, cell_keep q3 hb⟩, cell_keep t3 hb, cell_keep t4 hb⟩
              clear q0 q1 q2 q3 t3 t4
              go_upto_region 14 with fail
              go_quiet (fail)
              obtain ⟨wz, hwz⟩ : ∃ wz, wz = wy.drewN nq := ⟨_, rfl⟩
              have hbz : Below wy.heap.size wy wz := by rw [hwz]; exact below_q15 (Below.refl _ _) nq
              have HWZ := Lib.hid hwz
              clear hwz
              have HRd := Lib.hid ((HR.out.below hbz).below ((Below.refl _ wz).drew))
              have HSZ : Hid (∀ W, Below wz.heap.size wz W → (W.cell? ⟨bp, op + u * 2, none⟩ = some (.float .f64 pu.1) ∧ W.cell? ⟨bp, op + u * 2 + 1, none⟩ = some (.float .f64 pu.2)) ∧ (W.cell? ⟨bp, op + v * 2, none⟩ = some (.float .f64 pv.1) ∧ W.cell? ⟨bp, op + v * 2 + 1, none⟩ = some (.float .f64 pv.2)) ∧ W.cell? ⟨w.heap.size, 0, none⟩ = some (.float .f64 p.1) ∧ W.cell? ⟨w.heap.size, 1, none⟩ = some (.float .f64 p.2)) := fun W hb => HSX.out W (bseq hbz hb)
              clear hbz
              rw [← HWZ.out]
              clear a0 a1 HSX
              have n0 := HSZ.out wz.drew ((Below.refl _ wz).drew)
              go_upto_region 15 with fail
              rename (∀ (a : Act) (w : World), Code.wp _ _ _ a w → _) => hcA
              have HCA := Lib.hid (fun (_ : Unit) => hcA)
              clear hcA
              cases bt
              · have HS2 : Hid (plK l G p i (k + 1) = plK l G p i k) := by have := HST.out; rw [if_neg (by simp), List.append_nil] at this; exact this
                go_region_held3 (fun W => (W.cell? ⟨bp, op + u * 2, none⟩ = some (.float .f64 pu.1) ∧ W.cell? ⟨bp, op + u * 2 + 1, none⟩ = some (.float .f64 pu.2)) ∧ (W.cell? ⟨bp, op + v * 2, none⟩ = some (.float .f64 pv.1) ∧ W.cell? ⟨bp, op + v * 2 + 1, none⟩ = some (.float .f64 pv.2)) ∧ W.cell? ⟨w.heap.size, 0, none⟩ = some (.float .f64 p.1) ∧ W.cell? ⟨w.heap.size, 1, none⟩ = some (.float .f64 p.2)) (first | exact n0 | exact n1)
                  (first | (go_at_call 128; (with_reducible refine (HBC.out _).mono ?_); rintro r w2 ⟨rfl, b2⟩; have HR2 := Lib.hid (HRd.out.below b2); have n1 := HSZ.out w2 (bseq ((Below.refl _ wz).drew) b2)))
                have hcA := HCA.out ()
                clear n0 n1
                go_wp2
                go_roundw
                case rel => exact ⟨k + 1, by omega, by (try rw [hw2]); rfl, by rw [HS2.out]; exact HR2.out⟩
                case measure => (try rw [hw2]); simp only [intOf]; omega
              · have HS2 : Hid (plK l G p i (k + 1) = plK l G p i k ++ [⟨2, min (u : Int) v, max (u : Int) v, 0⟩]) := by have := HST.out; rw [if_pos rfl] at this; exact this
                generalize hmn : min (u : Int) (v : Int) = mn at *
                generalize hmx : max (u : Int) (v : Int) = mx at *
                go_region_held3 (fun W => (W.cell? ⟨bp, op + u * 2, none⟩ = some (.float .f64 pu.1) ∧ W.cell? ⟨bp, op + u * 2 + 1, none⟩ = some (.float .f64 pu.2)) ∧ (W.cell? ⟨bp, op + v * 2, none⟩ = some (.float .f64 pv.1) ∧ W.cell? ⟨bp, op + v * 2 + 1, none⟩ = some (.float .f64 pv.2)) ∧ W.cell? ⟨w.heap.size, 0, none⟩ = some (.float .f64 p.1) ∧ W.cell? ⟨w.heap.size, 1, none⟩ = some (.float .f64 p.2)) (first | exact n0 | exact n1)
                  (first | (go_at_call 128; (with_reducible refine (HBC.out _).mono ?_); rintro r w2 ⟨rfl, b2⟩; have HR2 := Lib.hid (HRd.out.below b2); have n1 := HSZ.out w2 (bseq ((Below.refl _ wz).drew) b2)))
                have hcA := HCA.out ()
                clear n0 n1
                go_wp2_with (first
                  | (at_builtin; refine wpList_append_lies _ rfl _ _ 98 rfl w1.heap.size 91 i0 (.agg #[.int .u8 0, .int .i64 0, .int .i64 0, .int .i64 0]) 4 32 Tryz.underlying98 hi hz0' hz1' hz2' rfl (by decide) _ (plK l G p i k).length (cellsK encPl (plK l G p i k)) rfl ?qo ⟨w2.heap.size, 0, none⟩ 1 1 (encPl ⟨2, mn, mx, 0⟩) rfl ?qc1 ?qc2 ?qc3 (by decide) ?qc4 ?qc5 ?qc6 (w2.heap.size + 1) (by simp) ?_))
                case qo => exact HR2.out.own.alloc _
                case qc1 => rfl
                case qc2 => first | exact cells_new w2 (encPl ⟨2, mn, mx, 0⟩) 91 | exact fun _ _ h => h
                case qc3 => exact encPl_one _
                case qc4 => have := HLE.out; have := HN.out; unfold maxLen; omega
                case qc5 => have := HLE.out; have := HN.out; omega
                case qc6 => have := HR2.out.low.size; simp; omega
                intro g6 c6 w3 ho2 hg2 hat2 hlt2
                have HS3 : Hid (LR w1 w3 (.slice (some ⟨g6, 0, none⟩) ((plK l G p i k).length + 1) c6) (plK l G p i (k + 1))) := by
                  unfold Hid
                  rw [HS2.out]
                  exact HR2.out.grow (n := (plK l G p i k).length + 1) ((Below.refl _ _).alloc (Nat.le_refl _) _) hg2 (by simp) (by rw [cellsK_append, cellsK_one]; exact ho2)
                clear ho2 hg2 hat2 hlt2
                go_wp2
                go_roundw
                case rel => exact ⟨k + 1, by omega, by (try rw [hw2]); rfl, HS3.out⟩
                case measure => (try rw [hw2]); simp only [intOf]; omega
            · have e : k = 3 := by omega
              subst e
              obtain ⟨b, rfl, a0, a1, a2⟩ := HGI.out _ (HBW.out _ HR.out.low)
              obtain ⟨t3, t4⟩ := HPB.out _ (HCW.out _ HR.out.low)
              have HIC := Lib.hid (fun W (hb : Below w.heap.size w W) => HIN.out W x y z hb HXL.out.1 HXL.out.2.1 HXL.out.2.2)
              have HLE := Lib.hid (HLI.out 3 (by omega))
              have HPI : Hid (plI l p ((x : Int), (y : Int), (z : Int)) = if insB (ptP l x) (ptP l y) (ptP l z) p = true then [⟨1, (own3 ((x : Int), (y : Int), (z : Int))).1, (own3 ((x : Int), (y : Int), (z : Int))).2.1, (own3 ((x : Int), (y : Int), (z : Int))).2.2⟩] else []) := rfl
              rw [HPI.out] at HNI
              clear HPI
              generalize insB (ptP l x) (ptP l y) (ptP l z) p = ib at *
              generalize (own3 ((x : Int), (y : Int), (z : Int))).1 = o1 at *
              generalize (own3 ((x : Int), (y : Int), (z : Int))).2.1 = o2 at *
              generalize (own3 ((x : Int), (y : Int), (z : Int))).2.2 = o3 at *
              have HSX : Hid (∀ W, Below wy.heap.size wy W → (W.cell? ⟨b, i * 3, none⟩ = some (.int .i64 x) ∧ W.cell? ⟨b, i * 3 + 1, none⟩ = some (.int .i64 y) ∧ W.cell? ⟨b, i * 3 + 2, none⟩ = some (.int .i64 z)) ∧ W.cell? ⟨w.heap.size, 0, none⟩ = some (.float .f64 p.1) ∧ W.cell? ⟨w.heap.size, 1, none⟩ = some (.float .f64 p.2)) := fun W hb => ⟨⟨cell_keep a0 hb, cell_keep a1 hb, cell_keep a2 hb⟩, cell_keep t3 hb, cell_keep t4 hb⟩
              have n0 := HSX.out wy.drew ((Below.refl _ wy).drew)
              have HRd := Lib.hid (HR.out.below ((Below.refl _ wy).drew))
              clear a0 a1 a2 t3 t4
              go_upto_region 17 with fail
              rename (∀ (a : Act) (w : World), Code.wp _ _ _ a w → _) => hcA
              have HCA := Lib.hid (fun (_ : Unit) => hcA)
              clear hcA
              cases ib
              · have HS2 : Hid (plK l G p (i + 1) 0 = plK l G p i 3) := by have := HNI.out; rw [if_neg (by simp), List.append_nil] at this; exact this
                go_region_held3 (fun W => (W.cell? ⟨b, i * 3, none⟩ = some (.int .i64 x) ∧ W.cell? ⟨b, i * 3 + 1, none⟩ = some (.int .i64 y) ∧ W.cell? ⟨b, i * 3 + 2, none⟩ = some (.int .i64 z)) ∧ W.cell? ⟨w.heap.size, 0, none⟩ = some (.float .f64 p.1) ∧ W.cell? ⟨w.heap.size, 1, none⟩ = some (.float .f64 p.2)) (first | exact n0 | exact n1)
                  (first | (go_at_call 129; (with_reducible refine (HIC.out _ (HBW.out _ HRd.out.low)).mono ?_); rintro r w2 ⟨rfl, b2⟩; have HR2 := Lib.hid (HRd.out.below b2); have n1 := HSX.out w2 (bseq ((Below.refl _ wy).drew) b2)))
                have hcA := HCA.out ()
                clear n0 n1
                go_wp2
                go_roundw
                case rel => exact ⟨i + 1, by omega, by (try rw [hw1]); rfl, by rw [HS2.out]; exact HR2.out⟩
                case measure => (try rw [hw1]); simp only [intOf]; omega
              · have HS2 : Hid (plK l G p (i + 1) 0 = plK l G p i 3 ++ [⟨1, o1, o2, o3⟩]) := by have := HNI.out; rw [if_pos rfl] at this; exact this
                go_region_held3 (fun W => (W.cell? ⟨b, i * 3, none⟩ = some (.int .i64 x) ∧ W.cell? ⟨b, i * 3 + 1, none⟩ = some (.int .i64 y) ∧ W.cell? ⟨b, i * 3 + 2, none⟩ = some (.int .i64 z)) ∧ W.cell? ⟨w.heap.size, 0, none⟩ = some (.float .f64 p.1) ∧ W.cell? ⟨w.heap.size, 1, none⟩ = some (.float .f64 p.2)) (first | exact n0 | exact n1)
                  (first | (go_at_call 129; (with_reducible refine (HIC.out _ (HBW.out _ HRd.out.low)).mono ?_); rintro r w2 ⟨rfl, b2⟩; have HR2 := Lib.hid (HRd.out.below b2); have n1 := HSX.out w2 (bseq ((Below.refl _ wy).drew) b2)))
                have hcA := HCA.out ()
                clear n0 n1
                go_wp2_with (first
                  | (go_at_call 130; (with_reducible refine (HOW.out _).mono ?_); rintro r w3 ⟨rfl, b3⟩; have HR3 := Lib.hid (HR2.out.below b3))
                  | (at_builtin; refine wpList_append_lies _ rfl _ _ 98 rfl w1.heap.size 91 i0 (.agg #[.int .u8 0, .int .i64 0, .int .i64 0, .int .i64 0]) 4 32 Tryz.underlying98 hi hz0' hz1' hz2' rfl (by decide) _ (plK l G p i 3).length (cellsK encPl (plK l G p i 3)) rfl ?qo ⟨w3.heap.size + 1, 0, none⟩ 1 1 (encPl ⟨1, o1, o2, o3⟩) rfl ?qc1 ?qc2 ?qc3 (by decide) ?qc4 ?qc5 ?qc6 (w3.heap.size + 2) (by simp) ?_))
                case qo => exact (HR3.out.own.alloc _).alloc _
                case qc1 => rfl
                case qc2 =>
                  have hc := cells_new (w3.alloc (.cells #[.int .i64 o1, .int .i64 o2, .int .i64 o3] 45)) (encPl ⟨1, o1, o2, o3⟩) 91
                  rw [show (w3.alloc (.cells #[.int .i64 o1, .int .i64 o2, .int .i64 o3] 45)).heap.size = w3.heap.size + 1 from by simp] at hc
                  exact hc
                case qc3 => exact encPl_one _
                case qc4 => have := HLE.out; have := HN.out; unfold maxLen; omega
                case qc5 => have := HLE.out; have := HN.out; omega
                case qc6 => have := HR3.out.low.size; simp; omega
                intro g6 c6 w4 ho2 hg2 hat2 hlt2
                have HS3 : Hid (LR w1 w4 (.slice (some ⟨g6, 0, none⟩) ((plK l G p i 3).length + 1) c6) (plK l G p (i + 1) 0)) := by
                  unfold Hid
                  rw [HS2.out]
                  exact HR3.out.grow (n := (plK l G p i 3).length + 1) (((Below.refl _ _).alloc (Nat.le_refl _) _).alloc (by simp) _) hg2 (by simp) (by rw [cellsK_append, cellsK_one]; exact ho2)
                clear ho2 hg2 hat2 hlt2
                go_wp2
                go_roundw
                case rel => exact ⟨i + 1, by omega, by (try rw [hw1]); rfl, HS3.out⟩
                case measure => (try rw [hw1]); simp only [intOf]; omega
        · have e : i = G.length := by omega
          subst e
          have hz : ¬(G.length : Int) < (G.length : Int) := by omega
          go_wp2
          go_ret
          refine ⟨_, rfl, ?_⟩
          rw [← HALL.out]
          exact ⟨ownsRow_down B1.out.size HR.out.own, bseq B1.out HR.out.low⟩

end Go.Proofs.YtdoaniccefdkaaaGreatDoor
