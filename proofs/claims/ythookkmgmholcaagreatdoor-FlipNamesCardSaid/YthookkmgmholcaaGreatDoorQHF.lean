/- flip.All at the meshes of FlipNames. -/
import Derived.Test.YthookkmgmholcaaGreatDoorQHE
namespace Go.Proofs.YthookkmgmholcaaGreatDoor
open Go.RowKit Tvf

theorem fo_K : foL9.length = 9 := rfl

/-- All at a square whose edge (0, 2) is out of order, and turned is in order -/
theorem all_turns {w0 w : World} {mb n : Nat} {M N : MeshM} {F : Nat → Prop} (h : MB w0 w mb n M F) (hn : n ≤ 1000000) (hE : edgeL M.ap M.P.length = foL) (h1 : ∀ e, e ∈ [((0, 3) : Int × Int), (1, 2), (2, 3)] → (shB M e.1 e.2 && mayB M e.1 e.2) = false) (h2 : shB M 0 2 = true) (h3 : mayB M 0 2 = true) (h4 : four M 0 2 = [(0, 1), (1, 2), (2, 3), (3, 0)]) (h5 : turnR M 0 2 = N)
    (h6 : ∀ e, e ∈ [((0, 1) : Int × Int), (0, 1), (1, 2), (2, 3), (3, 0)] → (shB N e.1 e.2 && mayB N e.1 e.2) = false) (h7 : ∀ e, e ∈ foL9 → (shB N e.1 e.2 && mayB N e.1 e.2) = false) (hs : Sound M) (h64 : ∀ p, p ∈ M.P → pt64 p) (hl : M.P.length ≤ 1048576)
    (hW : ∀ w, Calls Tryz.prog 65 #[V (ptAt M 0), V (ptAt M 2), V (ptAt M (apD M 0 2)), V (ptAt M (apD M 2 0))] w fun r w' => r = .returned (.bool true) ∧ Below w.heap.size w w') :
    Calls Tryz.prog 19 #[.pointer (some ⟨mb, 0, none⟩)] w fun r w' => r = .returned (.tuple #[.int .i64 1, .int .i64 0]) ∧ ∃ G, MB w0 w' mb (n + 12) N G ∧ Stay F w w' ∧ ∀ i, G i → F i ∨ w.heap.size ≤ i := by
  have hs' : Sound N := by rw [← h5]; exact turnR_sound hs _ _
  have hP' : N.P = M.P := by rw [← h5]; exact turnR_P _ _ _
  have hg0 := fo_good M N h1 h2 h3 h4 h5 h6 hs h64 hl hs' (by rw [hP']; exact h64) (by rw [hP']; exact hl) hW
  obtain ⟨_, _, r9⟩ := fo_run M N h1 h2 h3 h4 h5 h6
  obtain ⟨hg1, r18⟩ := q_turn (n := 1) h7 hs' (by rw [hP']; exact h64) (by rw [hP']; exact hl) ⟨by decide, by decide, by decide, sm_of (by decide)⟩ (by decide)
  rw [fo_K] at hg1 r18
  have e1 : stRun D0 (fun _ => 9) ⟨M, edgeL M.ap M.P.length, 0⟩ 0 = ⟨M, foL, 0⟩ := by rw [hE]; rfl
  have e2 : stRun D0 (fun _ => 9) ⟨M, edgeL M.ap M.P.length, 0⟩ 1 = ⟨N, foL9, 1⟩ := by
    show stNext D0 9 (stRun D0 (fun _ => 9) ⟨M, edgeL M.ap M.P.length, 0⟩ 0) = _
    rw [e1]
    show (⟨(sRun D0 ⟨M, foL, foL, 0⟩ 9).M, (sRun D0 ⟨M, foL, foL, 0⟩ 9).S, 0 + (sRun D0 ⟨M, foL, foL, 0⟩ 9).n⟩ : Stg) = _
    rw [r9]
    rfl
  have e3 : (stRun D0 (fun _ => 9) ⟨M, edgeL M.ap M.P.length, 0⟩ 2).M = N := by
    show (stNext D0 9 (stRun D0 (fun _ => 9) ⟨M, edgeL M.ap M.P.length, 0⟩ 1)).M = _
    rw [e2]
    show (sRun D0 (Stg.s0 ⟨N, foL9, 1⟩) 9).M = N
    rw [r18]
  refine (All_walk h h64 hs hl hn D0 (fun _ => 9) 1 ?_ ?_ ?_).mono ?_
  · intro r hr
    rcases (show r = 0 ∨ r = 1 by omega) with rfl | rfl
    · rw [e1]; exact hg0
    · rw [e2]; exact hg1
  · intro r hr
    obtain rfl : r = 0 := by omega
    rw [e1]
    show (sRun D0 ⟨M, foL, foL, 0⟩ 9).n ≠ 0
    rw [r9]
    show 1 ≠ 0
    decide
  · rw [e2, r18]
  · rintro r w' ⟨rfl, G, h8, h9, h10⟩
    rw [e2] at h8 ⊢
    rw [e3] at h8
    exact ⟨rfl, G, h8, h9, h10⟩

/-- All where no edge is turned -/
theorem all_quiet {w0 w : World} {mb n : Nat} {M : MeshM} {F : Nat → Prop} (h : MB w0 w mb n M F) (hn : n ≤ 1000000) {L : List (Int × Int)} (hE : edgeL M.ap M.P.length = L) (hq : ∀ e, e ∈ L → (shB M e.1 e.2 && mayB M e.1 e.2) = false) (hok : OkS L L 0) (hs : Sound M) (h64 : ∀ p, p ∈ M.P → pt64 p) (hl : M.P.length ≤ 1048576) :
    Calls Tryz.prog 19 #[.pointer (some ⟨mb, 0, none⟩)] w fun r w' => r = .returned (.tuple #[.int .i64 0, .int .i64 0]) ∧ ∃ G, MB w0 w' mb n M G ∧ Stay F w w' ∧ ∀ i, G i → F i ∨ w.heap.size ≤ i := by
  obtain ⟨hg, hr⟩ := q_turn (n := 0) hq hs h64 hl hok (by decide)
  have e1 : stRun D0 (fun _ => L.length) ⟨M, edgeL M.ap M.P.length, 0⟩ 0 = ⟨M, L, 0⟩ := by rw [hE]; rfl
  have e2 : (stRun D0 (fun _ => L.length) ⟨M, edgeL M.ap M.P.length, 0⟩ 1).M = M := by
    show (stNext D0 L.length (stRun D0 (fun _ => L.length) ⟨M, edgeL M.ap M.P.length, 0⟩ 0)).M = _
    rw [e1]
    show (sRun D0 (Stg.s0 ⟨M, L, 0⟩) L.length).M = M
    rw [hr]
  refine (All_walk h h64 hs hl hn D0 (fun _ => L.length) 0 ?_ ?_ ?_).mono ?_
  · intro r hr'
    obtain rfl : r = 0 := by omega
    rw [e1]; exact hg
  · intro r hr'; omega
  · rw [e1, hr]
  · rintro r w' ⟨rfl, G, h8, h9, h10⟩
    rw [e1] at h8 ⊢
    rw [e2] at h8
    exact ⟨rfl, G, h8, h9, h10⟩

end Go.Proofs.YthookkmgmholcaaGreatDoor
