/- trivetref16: Own, alike, between, Inside. -/
import Derived.Test.YtdoaniccefdkaaaGreatDoorZa
import Derived.Test.YtdoaniccefdkaaaGreatDoorQR4
import Derived.Test.YtdoaniccefdkaaaGreatDoorQVN
set_option linter.all false
namespace Go.Proofs.YtdoaniccefdkaaaGreatDoor
open Go.RowKit Tvf Go.Maps Go.WideMaps

set_option maxRecDepth 100000 in
set_option maxHeartbeats 4000000 in
theorem own16 {t : Tri3} (hne : t.1 ≠ t.2.1 ∧ t.2.1 ≠ t.2.2 ∧ t.1 ≠ t.2.2) (w : World) :
    Calls Tryz.prog 130 #[tv3 t] w fun r w' => r = .returned (tv3 (own3 t)) ∧ Below w.heap.size w w' := by
  obtain ⟨W0, hW0⟩ : ∃ W0 : World, W0 = (w.alloc (.cells #[.int .i64 t.1, .int .i64 t.2.1, .int .i64 t.2.2] tTri)).alloc (.cells #[.int .i64 0, .int .i64 0, .int .i64 0] tTri) := ⟨_, rfl⟩
  have HW0 := Lib.hid hW0
  have hs1 : (w.alloc (.cells #[.int .i64 t.1, .int .i64 t.2.1, .int .i64 t.2.2] tTri)).heap.size = w.heap.size + 1 := by simp
  have HA : Hid (Box3 tTri W0 w.heap.size (.int .i64 t.1) (.int .i64 t.2.1) (.int .i64 t.2.2)) := by rw [hW0]; exact (Box3.new _ _ _ _ _).al _
  have HR : Hid (Box3 tTri W0 (w.heap.size + 1) (.int .i64 0) (.int .i64 0) (.int .i64 0)) := by rw [hW0, ← hs1]; exact Box3.new _ _ _ _ _
  have HB : Hid (Below w.heap.size w W0) := by rw [hW0]; exact ((Below.refl _ _).alloc (Nat.le_refl _) _).alloc (by simp) _
  have HNE := Lib.hid hne
  clear hW0 hs1 hne
  unfold tv3
  go_enter Tryz.func130, Tryz.ntmps130
  go_upto_block 0 with fail
  rw [← HW0.out]
  go_wp2_with fail
  go_loopw [] (fun wr => ∃ u : Tri3, Hid (own3 u = own3 t ∧ (u.1 ≠ u.2.1 ∧ u.2.1 ≠ u.2.2 ∧ u.1 ≠ u.2.2)) ∧ Hid (Box3 tTri wr w.heap.size (.int .i64 u.1) (.int .i64 u.2.1) (.int .i64 u.2.2)) ∧ Hid (Box3 tTri wr (w.heap.size + 1) (.int .i64 0) (.int .i64 0) (.int .i64 0)) ∧ Hid (Below w.heap.size w wr)) (fun wr => rotM (cellI wr w.heap.size 0) (cellI wr w.heap.size 1) (cellI wr w.heap.size 2))
  case atStart => exact ⟨t, ⟨rfl, HNE.out⟩, HA.out, HR.out, HB.out⟩
  case round =>
    obtain ⟨⟨u0, u1, u2⟩, HU, HA1, HR1, HB1⟩ := hrel
    obtain ⟨c0, c1, c2⟩ := HA1.out.c
    have f0 := HA1.out.fz 0
    have f1 := HA1.out.fz 1
    have f2 := HA1.out.fz 2
    have HA2 := Lib.hid (HA1.out.put (.int .i64 u1) (.int .i64 u2) (.int .i64 u0))
    have HR2 : Hid (Box3 tTri (((wr.setCell ⟨w.heap.size, 0, none⟩ (.int .i64 u1)).setCell ⟨w.heap.size, 1, none⟩ (.int .i64 u2)).setCell ⟨w.heap.size, 2, none⟩ (.int .i64 u0)) (w.heap.size + 1) (.int .i64 0) (.int .i64 0) (.int .i64 0)) := ((HR1.out.far (by show w.heap.size + 1 ≠ w.heap.size; omega) _).far (by show w.heap.size + 1 ≠ w.heap.size; omega) _).far (by show w.heap.size + 1 ≠ w.heap.size; omega) _
    have HB2 : Hid (Below w.heap.size w (((wr.setCell ⟨w.heap.size, 0, none⟩ (.int .i64 u1)).setCell ⟨w.heap.size, 1, none⟩ (.int .i64 u2)).setCell ⟨w.heap.size, 2, none⟩ (.int .i64 u0))) := ((HB1.out.setCell (p := ⟨w.heap.size, 0, none⟩) (Nat.le_refl _) _).setCell (p := ⟨w.heap.size, 1, none⟩) (Nat.le_refl _) _).setCell (p := ⟨w.heap.size, 2, none⟩) (Nat.le_refl _) _
    have HROT : Hid (u1 ≠ u2 ∧ u2 ≠ u0 ∧ u1 ≠ u0) := by have := HU.out.2; dsimp only at this; unfold Hid; omega
    by_cases h1 : u1 < u0
    · go_wp2
      go_roundw
      case rel => exact ⟨(u1, u2, u0), ⟨(own3_rot (u0, u1, u2) HU.out.2).trans HU.out.1, HROT.out⟩, HA2.out, HR2.out, HB2.out⟩
      case measure =>
        obtain ⟨e0, e1, e2⟩ := Box3.ints HA2.out
        obtain ⟨g0, g1, g2⟩ := Box3.ints HA1.out
        simp only [e0, e1, e2, g0, g1, g2]
        have := HU.out.2
        dsimp only at this
        unfold rotM
        split <;> split <;> (try split) <;> (try split) <;> omega
    · by_cases h2 : u2 < u0
      · go_wp2
        go_roundw
        case rel => exact ⟨(u1, u2, u0), ⟨(own3_rot (u0, u1, u2) HU.out.2).trans HU.out.1, HROT.out⟩, HA2.out, HR2.out, HB2.out⟩
        case measure =>
          obtain ⟨e0, e1, e2⟩ := Box3.ints HA2.out
          obtain ⟨g0, g1, g2⟩ := Box3.ints HA1.out
          simp only [e0, e1, e2, g0, g1, g2]
          have := HU.out.2
          dsimp only at this
          unfold rotM
          split <;> split <;> (try split) <;> (try split) <;> omega
      · have HLD : Hid (own3 t = (u0, u1, u2)) := by
          have := HU.out.2
          dsimp only at this
          unfold Hid
          rw [← HU.out.1, own3_lead_id (t := (u0, u1, u2)) (by dsimp only; omega)]
        obtain ⟨r0, r1, r2⟩ := HR1.out.c
        have g0 := HR1.out.fz 0
        have g1 := HR1.out.fz 1
        have g2 := HR1.out.fz 2
        obtain ⟨k0, k1, k2⟩ := (HR1.out.put (.int .i64 u0) (.int .i64 u1) (.int .i64 u2)).c
        go_wp2
        refine bodyPost_ret (by simp [results, Tryz.results130, go_sem, k0, k1, k2]; try rfl) rfl ?_
        rw [HLD.out]
        exact ⟨rfl, ((HB1.out.setCell (p := ⟨w.heap.size + 1, 0, none⟩) (by show w.heap.size ≤ w.heap.size + 1; omega) _).setCell (p := ⟨w.heap.size + 1, 1, none⟩) (by show w.heap.size ≤ w.heap.size + 1; omega) _).setCell (p := ⟨w.heap.size + 1, 2, none⟩) (by show w.heap.size ≤ w.heap.size + 1; omega) _⟩

set_option maxRecDepth 100000 in
set_option maxHeartbeats 1000000 in
theorem alike16 (a b : Pt) (w : World) :
    Calls Tryz.prog 127 #[V a, V b] w fun r w' => r = .returned (.bool (aliB a b)) ∧ Below w.heap.size w w' := by
  have HB0 : Hid (Below w.heap.size w ((w.alloc (.cells #[.float .f64 a.1, .float .f64 a.2] 52)).alloc (.cells #[.float .f64 b.1, .float .f64 b.2] 52))) := ((Below.refl _ w).alloc (Nat.le_refl _) _).alloc (by simp) _
  unfold aliB V
  cases h1 : feq a.1 b.1
  all_goals
    go_enter Tryz.func127, Tryz.ntmps127
    go_wp2
    go_ret
    first | exact ⟨rfl, HB0.out⟩ | (refine ⟨?_, HB0.out⟩; simp [h1])

set_option maxRecDepth 100000 in
set_option maxHeartbeats 4000000 in
theorem btw16 {a b p : Pt} (ha : PtO a) (hb : PtO b) (hp : PtO p) (w : World) :
    Calls Tryz.prog 128 #[V a, V b, V p] w fun r w' => r = .returned (.bool (btwB a b p)) ∧ Below w.heap.size w w' := by
  have HO : Hid (∀ W, Calls Tryz.prog 171 #[V a, V b, V p] W fun r w' => r = .returned (.bool (onB a b p)) ∧ Below W.heap.size W w') := fun W => on04 ha.1 hb.1 hp.1 W
  have H1 : Hid (∀ W, Calls Tryz.prog 127 #[V a, V p] W fun r w' => r = .returned (.bool (aliB a p)) ∧ Below W.heap.size W w') := fun W => alike16 a p W
  have H2 : Hid (∀ W, Calls Tryz.prog 127 #[V b, V p] W fun r w' => r = .returned (.bool (aliB b p)) ∧ Below W.heap.size W w') := fun W => alike16 b p W
  unfold btwB
  generalize onB a b p = x at *
  generalize aliB a p = y at *
  generalize aliB b p = z at *
  unfold V at *
  clear ha hb hp
  have HP := Lib.hid (P6.made w a b p 52)
  have HB0 : Hid (Below w.heap.size w (((w.alloc (.cells #[.float .f64 a.1, .float .f64 a.2] 52)).alloc (.cells #[.float .f64 b.1, .float .f64 b.2] 52)).alloc (.cells #[.float .f64 p.1, .float .f64 p.2] 52))) := (((Below.refl _ w).alloc (Nat.le_refl _) _).alloc (by simp) _).alloc (by simp; omega) _
  have h4 : x = false ∨ (x = true ∧ y = true) ∨ (x = true ∧ y = false) := by cases x <;> cases y <;> simp
  rcases h4 with rfl | ⟨rfl, rfl⟩ | ⟨rfl, rfl⟩
  all_goals
    go_enter Tryz.func128, Tryz.ntmps128
    go_wp2_with (first
      | (go_at_call 171; (with_reducible refine (HO.out _).mono ?_); rintro r w1 ⟨rfl, hb1⟩; have p1 := HP.out.below hb1; have P1 := Lib.hid p1; obtain ⟨q1, q2, q3, q4, q5, q6⟩ := p1; have B1 := Lib.hid (bseq HB0.out hb1))
      | (go_at_call 127; (with_reducible refine (H1.out _).mono ?_); rintro r w2 ⟨rfl, hb2⟩; clear q1 q2 q3 q4 q5 q6; have p2 := P1.out.below hb2; have P2 := Lib.hid p2; obtain ⟨q1, q2, q3, q4, q5, q6⟩ := p2; have B2 := Lib.hid (bseq B1.out hb2))
      | (go_at_call 127; (with_reducible refine (H2.out _).mono ?_); rintro r w3 ⟨rfl, hb3⟩; have B3 := Lib.hid (bseq B2.out hb3)))
    go_ret
    first
      | exact ⟨by simp, B3.out⟩
      | exact ⟨by simp, B2.out⟩
      | exact ⟨by simp, B1.out⟩

end Go.Proofs.YtdoaniccefdkaaaGreatDoor
