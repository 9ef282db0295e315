/- (*mesh.Mesh).Points; mesh.Of at triangles that can all be made. -/
import Derived.Test.YthookkmgmholcaaGreatDoorZD
namespace Go.Proofs.YthookkmgmholcaaGreatDoor
open Go.RowKit Go.Maps Go.WideMaps

theorem owns_pcells {w : World} {base : Nat} {v : Value} {l : List Pt} (h : w.ownsRow base 25 2 v l.length (cellsP l)) : ∃ ad cap, v = .slice ad l.length cap ∧ PCells w ad l := by
  rcases h.2 with ⟨h1, h2⟩ | ⟨g, cap, cur, h1, h2, h3, h4, h5, h6, h7⟩
  · exact ⟨none, 0, by rw [h2]; exact h1, fun hl => absurd h2 (by omega)⟩
  · refine ⟨some ⟨g, 0, none⟩, cap, h1, fun _ => ⟨g, 0, rfl, (Array.getElem?_eq_some_iff.1 h3).1, fun i hi => ?_⟩⟩
    have hp := h
    rw [h1] at hp
    have := cellsP_at l i hi
    refine ⟨?_, ?_⟩
    · rw [hp.cellAt _ (by omega)]; simpa using this.1
    · rw [hp.cellAt _ (by omega)]; simpa using this.2

set_option maxRecDepth 100000 in
set_option maxHeartbeats 1000000 in
theorem points_mb {w0 w : World} {mb n : Nat} {M : MeshM} {F : Nat → Prop} (h : MB w0 w mb n M F) (hl : M.P.length ≤ 1048576) :
    Calls Tryz.prog 41 #[.pointer (some ⟨mb, 0, none⟩)] w fun r w' => ∃ ad cap, r = .returned (.slice ad M.P.length cap) ∧ PCells w' ad M.P ∧ Below w.heap.size w w' := by
  obtain ⟨ba, bs, bf, pv, sv, h⟩ := h.at_
  obtain ⟨ad, cap, rfl, hp⟩ := h.ptcells
  have c0 := h.c0
  have HC := Lib.hid (clone_walk M.P ad cap hl w hp)
  clear h hp
  go_enter Tryz.func41, Tryz.ntmps41
  go_wp2_with (go_at_call 79; with_reducible refine HC.out.mono ?_; rintro r w2 ⟨v', rfl, hown2, hb2⟩)
  go_ret
  obtain ⟨ad2, cap2, rfl, hp2⟩ := owns_pcells hown2
  exact ⟨ad2, cap2, rfl, hp2, hb2⟩

set_option maxRecDepth 100000 in
set_option maxHeartbeats 2000000 in
theorem of_ok (l : List Pt) (ad : Option Addr) (cap : Nat) (T : List Tri3) (at_ : Option Addr) (capt : Nat) (h64 : ∀ p, p ∈ l → pt64 p) (hk : allCode l = 0) (hl : l.length ≤ 1048576) (hT : T.length ≤ 1000000) (hok : allOk (emptyM l) T) (w : World) (hc : PCells w ad l) (hct : KCells encT w at_ T) :
    Calls Tryz.prog 14 #[.slice ad l.length cap, .slice at_ T.length capt] w fun r w' => ∃ mb F, r = .returned (.tuple #[.pointer (some ⟨mb, 0, none⟩), .int .i64 0]) ∧ MB w w' mb (3 * T.length) (foldM (emptyM l) T) F := by
  have HN := Lib.hid (new_mb l ad cap h64 hk hl w w (Below.refl _ _) hc)
  have HTC := Lib.hid hct
  have H64 := Lib.hid h64
  have HL := Lib.hid hl
  have HTL := Lib.hid hT
  have HOK := Lib.hid (allOk_at T _ hok)
  clear h64 hk hl hc hct hT hok
  go_enter Tryz.func14, Tryz.ntmps14
  go_wp2_with (go_at_call 48; refine HN.out.mono ?_; rintro r w1 ⟨mb, F, rfl, hm1, _, _⟩)
  have HM1 := Lib.hid hm1
  clear hm1
  go_loopw [21] (fun s21 wr => ∃ (k : Nat) (F : Nat → Prop), k ≤ T.length ∧ s21 = .int .i64 k ∧ Hid (MB w wr mb (3 * k) (foldM (emptyM l) (T.take k)) F)) (fun i _ => T.length - (intOf i).toNat)
  case atStart => exact ⟨0, F, Nat.zero_le _, rfl, HM1.out⟩
  case round =>
    obtain ⟨k, G, hk, rfl, HM⟩ := hrel
    by_cases hlt : k < T.length
    · obtain ⟨g, rfl, _, q0, q1, q2⟩ := (HTC.out.below HM.out.keep).tri hlt
      have HTS := Lib.hid (take_snocT T k hlt)
      have hco := HOK.out k hlt
      have e : T[k] = T.getD k (0, 0, 0) := by rw [List.getD_eq_getElem?_getD, List.getElem?_eq_getElem hlt]; rfl
      rw [e] at hco
      clear e
      generalize T.getD k (0, 0, 0) = t at *
      obtain ⟨ta, tb, tc⟩ := t
      dsimp only at q0 q1 q2 hco
      have HMK : Hid (∀ v, Calls Tryz.prog 43 #[.pointer (some ⟨mb, 0, none⟩), .int .i64 ta, .int .i64 tb, .int .i64 tc] (wr.alloc v) fun r w2 => r = .returned (.int .i64 0) ∧ Hid (∃ F2, MB w w2 mb (3 * (k + 1)) (foldM (emptyM l) (T.take (k + 1))) F2)) := by
        intro v
        refine (make_mb (HM.out.below ((Below.refl _ wr).alloc (Nat.le_refl _) v)) (by rw [foldM_P]; exact H64.out) (by rw [foldM_P]; exact HL.out) (by have := HTL.out; omega) ta tb tc).mono ?_
        rintro r w2 ⟨rfl, hm2, _⟩
        refine ⟨by rw [hco], Fx G (wr.alloc v) w2, ?_⟩
        rw [HTS.out, foldM_snoc]
        exact hm2
      clear hco
      go_wp2_with (go_at_call 43; refine (HMK.out _).mono ?_; rintro r w2 ⟨rfl, HM2⟩)
      clear q0 q1 q2
      go_roundw
      case rel =>
        obtain ⟨F2, hm2⟩ := HM2.out
        exact ⟨k + 1, F2, by omega, (by have := HTL.out; first | rfl | rw [wrapS (by omega)]), hm2⟩
      case measure => have := HTL.out; first | (simp [intOf]; omega) | (rw [wrapS (by omega)]; simp [intOf]; omega)
    · have e : k = T.length := by omega
      subst e
      rw [List.take_length] at HM
      clear hlt hk
      go_wp2
      go_ret2
      exact ⟨mb, G, rfl, HM.out⟩

end Go.Proofs.YthookkmgmholcaaGreatDoor
