/- mesh.Of where a triangle is refused. -/
import Derived.Test.YthookkmgmholcaaGreatDoorQA1
namespace Go.Proofs.YthookkmgmholcaaGreatDoor
open Go.RowKit Go.Maps Go.WideMaps

set_option maxRecDepth 100000 in
set_option maxHeartbeats 2000000 in
theorem of_stop (l : List Pt) (ad : Option Addr) (cap : Nat) (T : List Tri3) (at_ : Option Addr) (capt : Nat) (h64 : ∀ p, p ∈ l → pt64 p) (hk : allCode l = 0) (hl : l.length ≤ 1048576) (hT : T.length ≤ 1000000) (j : Nat) (hj : j < T.length) (c : Int)
    (hok : ∀ k, k < j → makeCode (foldM (emptyM l) (T.take k)) (T.getD k (0, 0, 0)).1 (T.getD k (0, 0, 0)).2.1 (T.getD k (0, 0, 0)).2.2 = 0)
    (hstop : makeCode (foldM (emptyM l) (T.take j)) (T.getD j (0, 0, 0)).1 (T.getD j (0, 0, 0)).2.1 (T.getD j (0, 0, 0)).2.2 = c) (hc0 : c ≠ 0) (w : World) (hc : PCells w ad l) (hct : KCells encT w at_ T) :
    Calls Tryz.prog 14 #[.slice ad l.length cap, .slice at_ T.length capt] w fun r w' => r = .returned (.tuple #[.pointer none, .int .i64 c]) ∧ Below w.heap.size w w' := by
  have HN := Lib.hid (new_mb l ad cap h64 hk hl w w (Below.refl _ _) hc)
  have HTC := Lib.hid hct
  have H64 := Lib.hid h64
  have HL := Lib.hid hl
  have HTL := Lib.hid hT
  have HOK := Lib.hid hok
  have HST := Lib.hid hstop
  have HJ := Lib.hid hj
  have hcz : (c == 0) = false := by simpa using hc0
  clear h64 hk hl hc hct hT hok hstop hj
  go_enter Tryz.func14, Tryz.ntmps14
  go_wp2_with (go_at_call 48; refine HN.out.mono ?_; rintro r w1 ⟨mb, F, rfl, hm1, _, _⟩)
  have HM1 := Lib.hid hm1
  clear hm1
  go_loopw [21] (fun s21 wr => ∃ (k : Nat) (F : Nat → Prop), k ≤ j ∧ s21 = .int .i64 k ∧ Hid (MB w wr mb (3 * k) (foldM (emptyM l) (T.take k)) F)) (fun i _ => T.length - (intOf i).toNat)
  case atStart => exact ⟨0, F, Nat.zero_le _, rfl, HM1.out⟩
  case round =>
    obtain ⟨k, G, hk, rfl, HM⟩ := hrel
    have hlt : k < T.length := Nat.lt_of_le_of_lt hk HJ.out
    obtain ⟨g, rfl, _, q0, q1, q2⟩ := (HTC.out.below HM.out.keep).tri hlt
    have HTS := Lib.hid (take_snocT T k hlt)
    by_cases hkj : k < j
    · have hco := HOK.out k hkj
      clear HST
      generalize T.getD k (0, 0, 0) = t at *
      obtain ⟨ta, tb, tc⟩ := t
      dsimp only at q0 q1 q2 hco
      have HMK : Hid (∀ v, Calls Tryz.prog 43 #[.pointer (some ⟨mb, 0, none⟩), .int .i64 ta, .int .i64 tb, .int .i64 tc] (wr.alloc v) fun r w2 => r = .returned (.int .i64 0) ∧ Hid (∃ F2, MB w w2 mb (3 * (k + 1)) (foldM (emptyM l) (T.take (k + 1))) F2)) := by
        intro v
        refine (make_mb (HM.out.below ((Below.refl _ wr).alloc (Nat.le_refl _) v)) (by rw [foldM_P]; exact H64.out) (by rw [foldM_P]; exact HL.out) (by have := HTL.out; omega) ta tb tc).mono ?_
        rintro r w2 ⟨rfl, hm2, _⟩
        refine ⟨by rw [hco], Fx G (wr.alloc v) w2, ?_⟩
        rw [HTS.out, foldM_snoc]
        exact hm2
      clear hco HOK
      go_wp2_with (go_at_call 43; refine (HMK.out _).mono ?_; rintro r w2 ⟨rfl, HM2⟩)
      clear q0 q1 q2
      go_roundw
      case rel =>
        obtain ⟨F2, hm2⟩ := HM2.out
        exact ⟨k + 1, F2, by omega, (by have := HTL.out; first | rfl | rw [wrapS (by omega)]), hm2⟩
      case measure => have := HTL.out; first | (simp [intOf]; omega) | (rw [wrapS (by omega)]; simp [intOf]; omega)
    · have e : k = j := by omega
      subst e
      have hco := HST.out
      clear HOK HST hkj
      generalize T.getD k (0, 0, 0) = t at *
      obtain ⟨ta, tb, tc⟩ := t
      dsimp only at q0 q1 q2 hco
      have HMK : Hid (∀ v, Calls Tryz.prog 43 #[.pointer (some ⟨mb, 0, none⟩), .int .i64 ta, .int .i64 tb, .int .i64 tc] (wr.alloc v) fun r w2 => r = .returned (.int .i64 c) ∧ Below w.heap.size w w2) := by
        intro v
        refine (make_mb (HM.out.below ((Below.refl _ wr).alloc (Nat.le_refl _) v)) (by rw [foldM_P]; exact H64.out) (by rw [foldM_P]; exact HL.out) (by have := HTL.out; omega) ta tb tc).mono ?_
        rintro r w2 ⟨rfl, hm2, _⟩
        exact ⟨by rw [hco], hm2.keep⟩
      clear hco
      go_wp2_with (go_at_call 43; refine (HMK.out _).mono ?_; rintro r w2 ⟨rfl, hb2⟩)
      go_ret2
      exact ⟨rfl, hb2⟩

end Go.Proofs.YthookkmgmholcaaGreatDoor
