/- Part of the proof. No conditions. -/
import Derived.Test.YtdoaniccefdkaaaGreatDoorZF
import Derived.Test.YtdoaniccefdkaaaGreatDoorZG
import Derived.Test.YtdoaniccefdkaaaGreatDoorZM

set_option linter.all false
/- flip.All at the meshes of FlipNames. -/
namespace Go.Proofs.YtdoaniccefdkaaaGreatDoor
open Go.RowKit Tvf

theorem fo_K : foL9.length = 9 := rfl

/-- All at a square whose edge (0, 2) is out of order, and turned is in order -/
theorem all_turns {w0 w : World} {mb n : Nat} {M N : MeshM} {F : Nat → Prop} (h : MB w0 w mb n M F) (hn : n ≤ 1000000) (hE : edgeL M.ap M.P.length = foL) (h1 : ∀ e, e ∈ [((0, 3) : Int × Int), (1, 2), (2, 3)] → (shB M e.1 e.2 && mayB M e.1 e.2) = false) (h2 : shB M 0 2 = true) (h3 : mayB M 0 2 = true) (h4 : four M 0 2 = [(0, 1), (1, 2), (2, 3), (3, 0)]) (h5 : turnR M 0 2 = N)
    (h6 : ∀ e, e ∈ [((0, 1) : Int × Int), (0, 1), (1, 2), (2, 3), (3, 0)] → (shB N e.1 e.2 && mayB N e.1 e.2) = false) (h7 : ∀ e, e ∈ foL9 → (shB N e.1 e.2 && mayB N e.1 e.2) = false) (hs : Sound M) (h64 : ∀ p, p ∈ M.P → pt64 p) (hl : M.P.length ≤ 1048576)
    (hW : ∀ w, Calls Tryz.prog 136 #[V (ptAt M 0), V (ptAt M 2), V (ptAt M (apD M 0 2)), V (ptAt M (apD M 2 0))] w fun r w' => r = .returned (.bool true) ∧ Below w.heap.size w w') :
    Calls Tryz.prog 65 #[.pointer (some ⟨mb, 0, none⟩)] w fun r w' => r = .returned (.tuple #[.int .i64 1, .int .i64 0]) ∧ ∃ G, MB w0 w' mb (n + 12) N G ∧ Stay F w w' ∧ ∀ i, G i → F i ∨ w.heap.size ≤ i := by
  have hs' : Sound N := by rw [← h5]; exact turnR_sound hs _ _
  have hP' : N.P = M.P := by rw [← h5]; exact turnR_P _ _ _
  have hg0 := fo_good M N h1 h2 h3 h4 h5 h6 hs h64 hl hs' (by rw [hP']; exact h64) (by rw [hP']; exact hl) hW
  obtain ⟨_, _, r9⟩ := fo_run M N h1 h2 h3 h4 h5 h6
  obtain ⟨hg1, r18⟩ := q_turn (n := 1) h7 hs' (by rw [hP']; exact h64) (by rw [hP']; exact hl) ⟨by decide, by decide, by decide, sm_of (by decide)⟩ (by decide)
  rw [fo_K] at hg1 r18
  have e1 : stRun D0 (fun _ => 9) ⟨M, edgeL M.ap M.P.length, 0⟩ 0 = ⟨M, foL, 0⟩ := by rw [hE]; rfl
  have e2 : stRun D0 (fun _ => 9) ⟨M, edgeL M.ap M.P.length, 0⟩ 1 = ⟨N, foL9, 1⟩ := by
    show stNext D0 9 (stRun D0 (fun _ => 9) ⟨M, edgeL M.ap M.P.length, 0⟩ 0) = _
    rw [e1]
    show (⟨(sRun D0 ⟨M, foL, foL, 0⟩ 9).M, (sRun D0 ⟨M, foL, foL, 0⟩ 9).S, 0 + (sRun D0 ⟨M, foL, foL, 0⟩ 9).n⟩ : Stg) = _
    rw [r9]
    rfl
  have e3 : (stRun D0 (fun _ => 9) ⟨M, edgeL M.ap M.P.length, 0⟩ 2).M = N := by
    show (stNext D0 9 (stRun D0 (fun _ => 9) ⟨M, edgeL M.ap M.P.length, 0⟩ 1)).M = _
    rw [e2]
    show (sRun D0 (Stg.s0 ⟨N, foL9, 1⟩) 9).M = N
    rw [r18]
  refine (All_walk h h64 hs hl hn D0 (fun _ => 9) 1 ?_ ?_ ?_).mono ?_
  · intro r hr
    rcases (show r = 0 ∨ r = 1 by omega) with rfl | rfl
    · rw [e1]; exact hg0
    · rw [e2]; exact hg1
  · intro r hr
    obtain rfl : r = 0 := by omega
    rw [e1]
    show (sRun D0 ⟨M, foL, foL, 0⟩ 9).n ≠ 0
    rw [r9]
    show 1 ≠ 0
    decide
  · rw [e2, r18]
  · rintro r w' ⟨rfl, G, h8, h9, h10⟩
    rw [e2] at h8 ⊢
    rw [e3] at h8
    exact ⟨rfl, G, h8, h9, h10⟩

/-- All where no edge is turned -/
theorem all_quiet {w0 w : World} {mb n : Nat} {M : MeshM} {F : Nat → Prop} (h : MB w0 w mb n M F) (hn : n ≤ 1000000) {L : List (Int × Int)} (hE : edgeL M.ap M.P.length = L) (hq : ∀ e, e ∈ L → (shB M e.1 e.2 && mayB M e.1 e.2) = false) (hok : OkS L L 0) (hs : Sound M) (h64 : ∀ p, p ∈ M.P → pt64 p) (hl : M.P.length ≤ 1048576) :
    Calls Tryz.prog 65 #[.pointer (some ⟨mb, 0, none⟩)] w fun r w' => r = .returned (.tuple #[.int .i64 0, .int .i64 0]) ∧ ∃ G, MB w0 w' mb n M G ∧ Stay F w w' ∧ ∀ i, G i → F i ∨ w.heap.size ≤ i := by
  obtain ⟨hg, hr⟩ := q_turn (n := 0) hq hs h64 hl hok (by decide)
  have e1 : stRun D0 (fun _ => L.length) ⟨M, edgeL M.ap M.P.length, 0⟩ 0 = ⟨M, L, 0⟩ := by rw [hE]; rfl
  have e2 : (stRun D0 (fun _ => L.length) ⟨M, edgeL M.ap M.P.length, 0⟩ 1).M = M := by
    show (stNext D0 L.length (stRun D0 (fun _ => L.length) ⟨M, edgeL M.ap M.P.length, 0⟩ 0)).M = _
    rw [e1]
    show (sRun D0 (Stg.s0 ⟨M, L, 0⟩) L.length).M = M
    rw [hr]
  refine (All_walk h h64 hs hl hn D0 (fun _ => L.length) 0 ?_ ?_ ?_).mono ?_
  · intro r hr'
    obtain rfl : r = 0 := by omega
    rw [e1]; exact hg
  · intro r hr'; omega
  · rw [e1, hr]
  · rintro r w' ⟨rfl, G, h8, h9, h10⟩
    rw [e1] at h8 ⊢
    rw [e2] at h8
    exact ⟨rfl, G, h8, h9, h10⟩

end Go.Proofs.YtdoaniccefdkaaaGreatDoor

/- The contracts of FlipNames' calls. -/
namespace Go.Proofs.YtdoaniccefdkaaaGreatDoor
open Go.RowKit Tvf Go.Maps Go.WideMaps

theorem fm_pc (w : World) : PCells (w.alloc (.cells #[.float .f64 0, .float .f64 0, .float .f64 4616189618054758400, .float .f64 0, .float .f64 4616189618054758400, .float .f64 4607182418800017408, .float .f64 0, .float .f64 4607182418800017408, .float .f64 4611686018427387904, .float .f64 4621256167635550208] 52)) (some ⟨w.heap.size, 0, none⟩) fmP := by
  intro _
  refine ⟨_, 0, rfl, by simp, fun i hi => ?_⟩
  have : i = 0 ∨ i = 1 ∨ i = 2 ∨ i = 3 ∨ i = 4 := by simp [fmP] at hi; omega
  rw [World.cell?_alloc_at _ _ _ _ rfl, World.cell?_alloc_at _ _ _ _ rfl]
  rcases this with rfl | rfl | rfl | rfl | rfl <;> exact ⟨rfl, rfl⟩
theorem of_fm (w : World) :
    Calls Tryz.prog 23 #[.slice (some ⟨w.heap.size, 0, none⟩) 5 5, .slice (some ⟨w.heap.size + 1, 0, none⟩) 3 3] ((w.alloc (.cells #[.float .f64 0, .float .f64 0, .float .f64 4616189618054758400, .float .f64 0, .float .f64 4616189618054758400, .float .f64 4607182418800017408, .float .f64 0, .float .f64 4607182418800017408, .float .f64 4611686018427387904, .float .f64 4621256167635550208] 52)).alloc (.cells #[.int .i64 0, .int .i64 1, .int .i64 3, .int .i64 1, .int .i64 2, .int .i64 3, .int .i64 3, .int .i64 2, .int .i64 4] 45)) fun r w' => ∃ mb F, r = .returned (.tuple #[.pointer (some ⟨mb, 0, none⟩), .int .i64 0]) ∧ Hid (MB w w' mb 9 fmA F) := by
  have hk := kcells_new (w.alloc (.cells #[.float .f64 0, .float .f64 0, .float .f64 4616189618054758400, .float .f64 0, .float .f64 4616189618054758400, .float .f64 4607182418800017408, .float .f64 0, .float .f64 4607182418800017408, .float .f64 4611686018427387904, .float .f64 4621256167635550208] 52)) [(0, 1, 3), (1, 2, 3), (3, 2, 4)] 45
  rw [show (w.alloc (.cells #[.float .f64 0, .float .f64 0, .float .f64 4616189618054758400, .float .f64 0, .float .f64 4616189618054758400, .float .f64 4607182418800017408, .float .f64 0, .float .f64 4607182418800017408, .float .f64 4611686018427387904, .float .f64 4621256167635550208] 52)).heap.size = w.heap.size + 1 from by simp] at hk
  refine (of_ok fmP (some ⟨w.heap.size, 0, none⟩) 5 [(0, 1, 3), (1, 2, 3), (3, 2, 4)] (some ⟨w.heap.size + 1, 0, none⟩) 3 fm_64 fm_all (by rw [fmP_len]; omega) (by decide) fm_allOk ((w.alloc (.cells #[.float .f64 0, .float .f64 0, .float .f64 4616189618054758400, .float .f64 0, .float .f64 4616189618054758400, .float .f64 4607182418800017408, .float .f64 0, .float .f64 4607182418800017408, .float .f64 4611686018427387904, .float .f64 4621256167635550208] 52)).alloc (.cells #[.int .i64 0, .int .i64 1, .int .i64 3, .int .i64 1, .int .i64 2, .int .i64 3, .int .i64 3, .int .i64 2, .int .i64 4] 45)) ((fm_pc w).alloc _) hk).mono ?_
  rintro r w' ⟨mb, F, rfl, hm⟩
  exact ⟨mb, F, rfl, (hm.same fm_fold).up (((Below.refl _ w).alloc (Nat.le_refl _) _).alloc (by simp) _)⟩

theorem fo_pc (w : World) : PCells (w.alloc (.cells #[.float .f64 0, .float .f64 0, .float .f64 4621256167635550208, .float .f64 0, .float .f64 4621256167635550208, .float .f64 4621256167635550208, .float .f64 4607182418800017408, .float .f64 4611686018427387904] 52)) (some ⟨w.heap.size, 0, none⟩) foP := by
  intro _
  refine ⟨_, 0, rfl, by simp, fun i hi => ?_⟩
  have : i = 0 ∨ i = 1 ∨ i = 2 ∨ i = 3 := by simp [foP] at hi; omega
  rw [World.cell?_alloc_at _ _ _ _ rfl, World.cell?_alloc_at _ _ _ _ rfl]
  rcases this with rfl | rfl | rfl | rfl <;> exact ⟨rfl, rfl⟩
theorem of_fo (w : World) :
    Calls Tryz.prog 23 #[.slice (some ⟨w.heap.size, 0, none⟩) 4 4, .slice (some ⟨w.heap.size + 1, 0, none⟩) 2 2] ((w.alloc (.cells #[.float .f64 0, .float .f64 0, .float .f64 4621256167635550208, .float .f64 0, .float .f64 4621256167635550208, .float .f64 4621256167635550208, .float .f64 4607182418800017408, .float .f64 4611686018427387904] 52)).alloc (.cells #[.int .i64 0, .int .i64 1, .int .i64 2, .int .i64 0, .int .i64 2, .int .i64 3] 45)) fun r w' => ∃ mb F, r = .returned (.tuple #[.pointer (some ⟨mb, 0, none⟩), .int .i64 0]) ∧ Hid (MB w w' mb 6 foA F) := by
  have hk := kcells_new (w.alloc (.cells #[.float .f64 0, .float .f64 0, .float .f64 4621256167635550208, .float .f64 0, .float .f64 4621256167635550208, .float .f64 4621256167635550208, .float .f64 4607182418800017408, .float .f64 4611686018427387904] 52)) [(0, 1, 2), (0, 2, 3)] 45
  rw [show (w.alloc (.cells #[.float .f64 0, .float .f64 0, .float .f64 4621256167635550208, .float .f64 0, .float .f64 4621256167635550208, .float .f64 4621256167635550208, .float .f64 4607182418800017408, .float .f64 4611686018427387904] 52)).heap.size = w.heap.size + 1 from by simp] at hk
  refine (of_ok foP (some ⟨w.heap.size, 0, none⟩) 4 [(0, 1, 2), (0, 2, 3)] (some ⟨w.heap.size + 1, 0, none⟩) 2 fo_64 fo_all (by rw [foP_len]; omega) (by decide) fo_allOk ((w.alloc (.cells #[.float .f64 0, .float .f64 0, .float .f64 4621256167635550208, .float .f64 0, .float .f64 4621256167635550208, .float .f64 4621256167635550208, .float .f64 4607182418800017408, .float .f64 4611686018427387904] 52)).alloc (.cells #[.int .i64 0, .int .i64 1, .int .i64 2, .int .i64 0, .int .i64 2, .int .i64 3] 45)) ((fo_pc w).alloc _) hk).mono ?_
  rintro r w' ⟨mb, F, rfl, hm⟩
  exact ⟨mb, F, rfl, (hm.same fo_fold).up (((Below.refl _ w).alloc (Nat.le_refl _) _).alloc (by simp) _)⟩

theorem fw_pc (w : World) : PCells (w.alloc (.cells #[.float .f64 0, .float .f64 0, .float .f64 4616189618054758400, .float .f64 0, .float .f64 4611686018427387904, .float .f64 4611686018427387904, .float .f64 4611686018427387904, .float .f64 13835058055282163712, .float .f64 4621256167635550208, .float .f64 0] 52)) (some ⟨w.heap.size, 0, none⟩) fwP := by
  intro _
  refine ⟨_, 0, rfl, by simp, fun i hi => ?_⟩
  have : i = 0 ∨ i = 1 ∨ i = 2 ∨ i = 3 ∨ i = 4 := by simp [fwP] at hi; omega
  rw [World.cell?_alloc_at _ _ _ _ rfl, World.cell?_alloc_at _ _ _ _ rfl]
  rcases this with rfl | rfl | rfl | rfl | rfl <;> exact ⟨rfl, rfl⟩
theorem of_fw (w : World) :
    Calls Tryz.prog 23 #[.slice (some ⟨w.heap.size, 0, none⟩) 5 5, .slice (some ⟨w.heap.size + 1, 0, none⟩) 3 3] ((w.alloc (.cells #[.float .f64 0, .float .f64 0, .float .f64 4616189618054758400, .float .f64 0, .float .f64 4611686018427387904, .float .f64 4611686018427387904, .float .f64 4611686018427387904, .float .f64 13835058055282163712, .float .f64 4621256167635550208, .float .f64 0] 52)).alloc (.cells #[.int .i64 0, .int .i64 1, .int .i64 2, .int .i64 0, .int .i64 3, .int .i64 1, .int .i64 2, .int .i64 3, .int .i64 4] 45)) fun r w' => ∃ mb F, r = .returned (.tuple #[.pointer (some ⟨mb, 0, none⟩), .int .i64 0]) ∧ Hid (MB w w' mb 9 fwA F) := by
  have hk := kcells_new (w.alloc (.cells #[.float .f64 0, .float .f64 0, .float .f64 4616189618054758400, .float .f64 0, .float .f64 4611686018427387904, .float .f64 4611686018427387904, .float .f64 4611686018427387904, .float .f64 13835058055282163712, .float .f64 4621256167635550208, .float .f64 0] 52)) [(0, 1, 2), (0, 3, 1), (2, 3, 4)] 45
  rw [show (w.alloc (.cells #[.float .f64 0, .float .f64 0, .float .f64 4616189618054758400, .float .f64 0, .float .f64 4611686018427387904, .float .f64 4611686018427387904, .float .f64 4611686018427387904, .float .f64 13835058055282163712, .float .f64 4621256167635550208, .float .f64 0] 52)).heap.size = w.heap.size + 1 from by simp] at hk
  refine (of_ok fwP (some ⟨w.heap.size, 0, none⟩) 5 [(0, 1, 2), (0, 3, 1), (2, 3, 4)] (some ⟨w.heap.size + 1, 0, none⟩) 3 fw_64 fw_all (by rw [fwP_len]; omega) (by decide) fw_allOk ((w.alloc (.cells #[.float .f64 0, .float .f64 0, .float .f64 4616189618054758400, .float .f64 0, .float .f64 4611686018427387904, .float .f64 4611686018427387904, .float .f64 4611686018427387904, .float .f64 13835058055282163712, .float .f64 4621256167635550208, .float .f64 0] 52)).alloc (.cells #[.int .i64 0, .int .i64 1, .int .i64 2, .int .i64 0, .int .i64 3, .int .i64 1, .int .i64 2, .int .i64 3, .int .i64 4] 45)) ((fw_pc w).alloc _) hk).mono ?_
  rintro r w' ⟨mb, F, rfl, hm⟩
  exact ⟨mb, F, rfl, (hm.same fw_fold).up (((Below.refl _ w).alloc (Nat.le_refl _) _).alloc (by simp) _)⟩

theorem fm_small : fmA.P.length ≤ 1048576 := by rw [fmA_P, fmP_len]; omega
theorem fmB_small : fmB.P.length ≤ 1048576 := by rw [fmB_P, fmP_len]; omega
theorem fo_small : foA.P.length ≤ 1048576 := by rw [foA_P, foP_len]; omega
theorem foB_small : foB.P.length ≤ 1048576 := by rw [foB_P, foP_len]; omega
theorem foX_small : foX.P.length ≤ 1048576 := by rw [foX_P, foP_len]; omega
theorem fw_small : fwA.P.length ≤ 1048576 := by rw [fwA_P, fwP_len]; omega
theorem fxM_sound {M : MeshM} (h : Sound M) (f : Int → Int → Option Int) : Sound (fxM M f) := ⟨h.rot, h.win, h.sgn, h.cnt, h.sp⟩
theorem foX_sound : Sound foX := by unfold foX; exact fxM_sound foA_sound _
theorem fmA_64 : ∀ p, p ∈ fmA.P → pt64 p := by rw [fmA_P]; exact fm_64
theorem fmB_64 : ∀ p, p ∈ fmB.P → pt64 p := by rw [fmB_P]; exact fm_64
theorem foA_64 : ∀ p, p ∈ foA.P → pt64 p := by rw [foA_P]; exact fo_64
theorem foB_64 : ∀ p, p ∈ foB.P → pt64 p := by rw [foB_P]; exact fo_64
theorem foX_64 : ∀ p, p ∈ foX.P → pt64 p := by rw [foX_P]; exact fo_64
theorem fwA_64 : ∀ p, p ∈ fwA.P → pt64 p := by rw [fwA_P]; exact fw_64
theorem small7 : i64ok 7 := by unfold i64ok; omega
theorem smallm3 : i64ok (-3) := by unfold i64ok; omega

theorem fm_within (w : World) : Calls Tryz.prog 136 #[V (ptAt fmA 1), V (ptAt fmA 3), V (ptAt fmA (apD fmA 1 3)), V (ptAt fmA (apD fmA 3 1))] w fun r w' => r = .returned (.bool false) ∧ Below w.heap.size w w' := by
  have h := fm_p
  simp only [Prod.mk.injEq] at h
  obtain ⟨h1, h2, h3, h4⟩ := h
  rw [h1, h2, h3, h4]
  exact wt1 w
theorem fo_within (w : World) : Calls Tryz.prog 136 #[V (ptAt foA 0), V (ptAt foA 2), V (ptAt foA (apD foA 0 2)), V (ptAt foA (apD foA 2 0))] w fun r w' => r = .returned (.bool true) ∧ Below w.heap.size w w' := by
  have h := fo_p
  simp only [Prod.mk.injEq] at h
  obtain ⟨h1, h2, h3, h4⟩ := h
  rw [h1, h2, h3, h4]
  exact wt2 w
theorem fo_within2 (w : World) : Calls Tryz.prog 136 #[V (ptAt foB 1), V (ptAt foB 3), V (ptAt foB (apD foB 1 3)), V (ptAt foB (apD foB 3 1))] w fun r w' => r = .returned (.bool false) ∧ Below w.heap.size w w' := by
  have h := fo_p2
  simp only [Prod.mk.injEq] at h
  obtain ⟨h1, h2, h3, h4⟩ := h
  rw [h1, h2, h3, h4]
  exact wt3 w

/-! ### one mesh -/
section
variable {w0 w : World} {mb n : Nat} {M : MeshM} {F : Nat → Prop}
theorem c_del_yes (h : Hid (MB w0 w mb n M F)) (h64 : ∀ p, p ∈ M.P → pt64 p) (hs : Sound M) (hl : M.P.length ≤ 1048576) {a b : Int} (ha : i64ok a) (hb : i64ok b) (hq1 : shB M a b = true) (hq2 : mayB M a b = true)
    (hW : ∀ w, Calls Tryz.prog 136 #[V (ptAt M a), V (ptAt M b), V (ptAt M (apD M a b)), V (ptAt M (apD M b a))] w fun r w' => r = .returned (.bool false) ∧ Below w.heap.size w w') :
    Calls Tryz.prog 63 #[.pointer (some ⟨mb, 0, none⟩), .int .i64 a, .int .i64 b] w fun r w' => r = .returned (.bool true) ∧ Below w.heap.size w w' ∧ Hid (MB w0 w' mb n M F) :=
  (del_yes h.out.at_ h64 hs hl ha hb hq1 hq2 false hW).mono fun _ _ h1 => ⟨h1.1, h1.2, h.out.below h1.2⟩
theorem c_del_no (h : Hid (MB w0 w mb n M F)) (h64 : ∀ p, p ∈ M.P → pt64 p) (hs : Sound M) (hl : M.P.length ≤ 1048576) {a b : Int} (ha : i64ok a) (hb : i64ok b) (hq : (shB M a b && mayB M a b) = false) :
    Calls Tryz.prog 63 #[.pointer (some ⟨mb, 0, none⟩), .int .i64 a, .int .i64 b] w fun r w' => r = .returned (.bool true) ∧ Below w.heap.size w w' ∧ Hid (MB w0 w' mb n M F) :=
  (del_no h.out.at_ h64 hs hl ha hb hq).mono fun _ _ h1 => ⟨h1.1, h1.2, h.out.below h1.2⟩
theorem c_may (h : Hid (MB w0 w mb n M F)) (h64 : ∀ p, p ∈ M.P → pt64 p) (hs : Sound M) (hl : M.P.length ≤ 1048576) {a b : Int} (ha : i64ok a) (hb : i64ok b) {q : Bool} (hq : (shB M a b && mayB M a b) = q) :
    Calls Tryz.prog 64 #[.pointer (some ⟨mb, 0, none⟩), .int .i64 a, .int .i64 b] w fun r w' => r = .returned (.bool q) ∧ Below w.heap.size w w' ∧ Hid (MB w0 w' mb n M F) :=
  (fmay_walk h.out.at_ h64 hs hl ha hb).mono fun _ _ h1 => ⟨by rw [h1.1, hq], h1.2, h.out.below h1.2⟩
theorem c_turn_none (h : Hid (MB w0 w mb n M F)) {a b : Int} (ha : i64ok a) (hb : i64ok b) (hq : shB M a b = false) :
    Calls Tryz.prog 20 #[.pointer (some ⟨mb, 0, none⟩), .int .i64 a, .int .i64 b] w fun r w' => r = .returned (.int .i64 5) ∧ Below w.heap.size w w' ∧ Hid (MB w0 w' mb n M F) :=
  (turn_none h.out.at_ ha hb hq).mono fun _ _ h1 => ⟨h1.1, h1.2, h.out.below h1.2⟩
theorem c_turn_no (h : Hid (MB w0 w mb n M F)) (h64 : ∀ p, p ∈ M.P → pt64 p) (hs : Sound M) (hl : M.P.length ≤ 1048576) {a b : Int} (ha : i64ok a) (hb : i64ok b) (hq1 : shB M a b = true) (hq2 : mayB M a b = false) :
    Calls Tryz.prog 20 #[.pointer (some ⟨mb, 0, none⟩), .int .i64 a, .int .i64 b] w fun r w' => r = .returned (.int .i64 14) ∧ Below w.heap.size w w' ∧ Hid (MB w0 w' mb n M F) :=
  (turn_no h.out.at_ h64 hs hl ha hb hq1 hq2).mono fun _ _ h1 => ⟨h1.1, h1.2, h.out.below h1.2⟩
theorem c_turn_ok (h : Hid (MB w0 w mb n M F)) (h64 : ∀ p, p ∈ M.P → pt64 p) (hs : Sound M) (hl : M.P.length ≤ 1048576) (hn : n ≤ 100000000) {a b : Int} (ha : i64ok a) (hb : i64ok b) (hq1 : shB M a b = true) (hq2 : mayB M a b = true) {N : MeshM} (hN : turnR M a b = N) :
    Calls Tryz.prog 20 #[.pointer (some ⟨mb, 0, none⟩), .int .i64 a, .int .i64 b] w fun r w' => r = .returned (.int .i64 0) ∧ ∃ G, Hid (MB w0 w' mb (n + 12) N G) :=
  (turn_ok h.out h64 hs hl hn ha hb hq1 hq2).mono fun _ _ ⟨h1, G, h2, _, _⟩ => ⟨h1, G, h2.same hN⟩
end

theorem c_fix {w0 w : World} {mb n : Nat} {F : Nat → Prop} (h : Hid (MB w0 w mb n foA F)) (hn : n ≤ 1000) :
    Calls Tryz.prog 33 #[.pointer (some ⟨mb, 0, none⟩), .int .i64 2, .int .i64 0, .int .i64 7] w fun r w' => r = .returned (.int .i64 0) ∧ Hid (MB w0 w' mb (n + 1) foX F) := by
  refine (fix_ok (v := 7) h.out (by omega) small2 small0 fo_h2 fo_h0 (by decide)).mono ?_
  rintro r w' ⟨rfl, hm⟩
  exact ⟨rfl, hm.same (by rw [foX])⟩
theorem c_allX {w0 w : World} {mb n : Nat} {F : Nat → Prop} (h : Hid (MB w0 w mb n foX F)) (hn : n ≤ 1000) :
    Calls Tryz.prog 65 #[.pointer (some ⟨mb, 0, none⟩)] w fun r w' => r = .returned (.tuple #[.int .i64 0, .int .i64 0]) ∧ ∃ G, Hid (MB w0 w' mb n foX G) := by
  refine (all_quiet h.out (by omega) fx_edges (quiet_of fx_quiet) ⟨by decide, by decide, by decide, sm_of (by decide)⟩ foX_sound foX_64 foX_small).mono ?_
  rintro r w' ⟨rfl, G, h1, _, _⟩
  exact ⟨rfl, G, h1⟩

/-! ### two meshes -/
theorem two_of {w0 w1 w : World} {mb n : Nat} {M : MeshM} {F : Nat → Prop} {mb2 n2 : Nat} {M2 : MeshM} {F2 : Nat → Prop} (h2 : Hid (MB w0 w1 mb2 n2 M2 F2)) (h : Hid (MB w1 w mb n M F)) : Hid (Two w0 w mb n M F mb2 n2 M2 F2) :=
  ⟨h.out.up h2.out.keep, h2.out.below h.out.keep, fun i hi e => by have := h2.out.at_.flt i hi; have := h.out.new i e; omega⟩
section
variable {w0 w : World} {mb n : Nat} {M : MeshM} {F : Nat → Prop} {mb2 n2 : Nat} {M2 : MeshM} {F2 : Nat → Prop}
theorem t_del (h : Hid (Two w0 w mb n M F mb2 n2 M2 F2)) (h64 : ∀ p, p ∈ M.P → pt64 p) (hs : Sound M) (hl : M.P.length ≤ 1048576) {a b : Int} (ha : i64ok a) (hb : i64ok b) (hq1 : shB M a b = true) (hq2 : mayB M a b = true) {v u : Bool}
    (hW : ∀ w, Calls Tryz.prog 136 #[V (ptAt M a), V (ptAt M b), V (ptAt M (apD M a b)), V (ptAt M (apD M b a))] w fun r w' => r = .returned (.bool v) ∧ Below w.heap.size w w') (hu : (!v) = u) :
    Calls Tryz.prog 63 #[.pointer (some ⟨mb, 0, none⟩), .int .i64 a, .int .i64 b] w fun r w' => r = .returned (.bool u) ∧ Hid (Two w0 w' mb n M F mb2 n2 M2 F2) :=
  (del_yes h.out.a.at_ h64 hs hl ha hb hq1 hq2 v hW).mono fun _ _ h1 => ⟨by rw [h1.1, hu], h.out.below h1.2⟩
theorem Two.turn2 {n' : Nat} {M' : MeshM} {G : Nat → Prop} {w' : World} (h : Two w0 w mb n M F mb2 n2 M2 F2) (hm : MB w0 w' mb n' M' G) (hs : Stay F w w') (hG : ∀ i, G i → F i ∨ w.heap.size ≤ i) : Two w0 w' mb n' M' G mb2 n2 M2 F2 :=
  ⟨hm, h.b.apart hs hm.keep h.off, fun i hi e => (hG i e).elim (h.off i hi) (fun e => by have := h.b.at_.flt i hi; omega)⟩
theorem t_tris_a {T : List Tri3} (h : Hid (Two w0 w mb n M F mb2 n2 M2 F2)) (hs : Sound M) (hl : M.P.length ≤ 1048576) (hT : trisL M.ap M.P.length = T) :
    Calls Tryz.prog 18 #[.pointer (some ⟨mb, 0, none⟩)] w fun r w' => ∃ ad cap, r = .returned (.slice ad T.length cap) ∧ Hid (KCells encT w' ad T) ∧ Hid (Two w0 w' mb n M F mb2 n2 M2 F2) := by
  have := tris_mb h.out.a hs hl
  rw [hT] at this
  refine this.mono ?_
  rintro r w' ⟨ad, cap, rfl, hk, _, _, hb⟩
  exact ⟨ad, cap, rfl, hk, h.out.below hb⟩
theorem t_tris_b {T : List Tri3} (h : Hid (Two w0 w mb n M F mb2 n2 M2 F2)) (hs : Sound M2) (hl : M2.P.length ≤ 1048576) (hT : trisL M2.ap M2.P.length = T) :
    Calls Tryz.prog 18 #[.pointer (some ⟨mb2, 0, none⟩)] w fun r w' => ∃ ad cap, r = .returned (.slice ad T.length cap) ∧ Hid (KCells encT w' ad T) ∧ Hid (Two w0 w' mb n M F mb2 n2 M2 F2) := by
  have := tris_mb h.out.b hs hl
  rw [hT] at this
  refine this.mono ?_
  rintro r w' ⟨ad, cap, rfl, hk, _, _, hb⟩
  exact ⟨ad, cap, rfl, hk, h.out.below hb⟩
theorem t_same {T : List Tri3} {ad : Option Addr} {cap c2 : Nat} (hk : Hid (KCells encT w ad T)) (h : Hid (Two w0 w mb n M F mb2 n2 M2 F2)) (hl : T.length ≤ 1000) :
    Calls Tryz.prog 21 #[.slice ad T.length cap, .slice (some ⟨w.heap.size, 0, none⟩) T.length c2] (w.alloc (.cells (cellsK encT T).toArray 45)) fun r w' => r = .returned (.bool true) ∧ Hid (Two w0 w' mb n M F mb2 n2 M2 F2) :=
  (sameTris_walk T ad (some ⟨w.heap.size, 0, none⟩) cap c2 _ (hk.out.below ((Below.refl _ w).alloc (Nat.le_refl _) _)) (kcells_new w T _) (by omega)).mono fun _ _ h1 => ⟨h1.1, (h.out.below ((Below.refl _ w).alloc (Nat.le_refl _) _)).below h1.2⟩
end

theorem t_allO {w0 w : World} {mb n : Nat} {F : Nat → Prop} {mb2 n2 : Nat} {M2 : MeshM} {F2 : Nat → Prop} (h : Hid (Two w0 w mb n foA F mb2 n2 M2 F2)) (hn : n ≤ 1000) :
    Calls Tryz.prog 65 #[.pointer (some ⟨mb, 0, none⟩)] w fun r w' => r = .returned (.tuple #[.int .i64 1, .int .i64 0]) ∧ ∃ G, Hid (Two w0 w' mb (n + 12) foB G mb2 n2 M2 F2) := by
  refine (all_turns h.out.a (by omega) fo_edges (quiet_of fo_q1) fo_s02 fo_m02 fo_four fo_turn (quiet_of fo_q2) (quiet_of fo_q3) foA_sound foA_64 fo_small fo_within).mono ?_
  rintro r w' ⟨rfl, G, h1, h2, h3⟩
  exact ⟨rfl, G, h.out.turn2 h1 h2 h3⟩

/-! ### nobody's mesh -/
set_option maxRecDepth 100000 in
set_option maxHeartbeats 1000000 in
theorem shared_nil (a b : Int) (w : World) :
    Calls Tryz.prog 69 #[.pointer none, .int .i64 a, .int .i64 b] w fun r w' => r = .returned (.tuple #[.agg #[.int .i64 a, .int .i64 b, .int .i64 0, .int .i64 0], .bool false]) ∧ Below w.heap.size w w' := by
  have HX := Lib.hid (fun W => nil_Apex a b W)
  have HY := Lib.hid (fun W => nil_Apex b a W)
  go_enter Tryz.func69, Tryz.ntmps69
  go_wp2_with (first
    | (go_at_call 19; with_reducible refine (HX.out _).mono ?_; rintro r w1 ⟨rfl, rfl⟩)
    | (go_at_call 19; with_reducible refine (HY.out _).mono ?_; rintro r w2 ⟨rfl, rfl⟩))
  go_returns
  exact ⟨rfl, (Below.refl _ _).alloc (Nat.le_refl _) _⟩
set_option maxRecDepth 100000 in
set_option maxHeartbeats 1000000 in
theorem fmay_nil (a b : Int) (w : World) :
    Calls Tryz.prog 64 #[.pointer none, .int .i64 a, .int .i64 b] w fun r w' => r = .returned (.bool false) ∧ Below w.heap.size w w' := by
  have HS := Lib.hid (shared_nil a b w)
  go_enter Tryz.func64, Tryz.ntmps64
  go_wp2_with (go_at_call 69; with_reducible refine HS.out.mono ?_; rintro r w1 ⟨rfl, b1⟩)
  go_ret
  exact ⟨rfl, b1.alloc b1.size _⟩

end Go.Proofs.YtdoaniccefdkaaaGreatDoor

/- trivetlaw17.works: the walk. -/
namespace Go.Proofs.YtdoaniccefdkaaaGreatDoor
open Go.RowKit Tvf Go.Maps Go.WideMaps

set_option maxRecDepth 100000 in
set_option maxHeartbeats 8000000 in
theorem fworks_walk (w : World) : Calls Tryz.prog 15 #[] w fun r w' => r = .returned (.bool true) ∧ Below w.heap.size w w' := by
  go_enter Tryz.func15, Tryz.ntmps15
  go_wp2_with (first
    | (go_at_call 23; with_reducible refine (of_fm w).mono ?_; rintro r w1 ⟨mA, FA, rfl, m1⟩)
    | (go_at_call 63; with_reducible refine (c_del_yes m1 fmA_64 fmA_sound fm_small small1 small3 fm_s13 fm_m13 fm_within).mono ?_; rintro r w2 ⟨rfl, _, m2⟩; clear m1)
    | (go_at_call 64; with_reducible refine (c_may m2 fmA_64 fmA_sound fm_small small3 small1 fm_31).mono ?_; rintro r w3 ⟨rfl, _, m3⟩; clear m2)
    | (go_at_call 20; with_reducible refine (c_turn_none m3 small0 small1 fm_s01).mono ?_; rintro r w4 ⟨rfl, _, m4⟩; clear m3)
    | (go_at_call 20; with_reducible refine (c_turn_ok m4 fmA_64 fmA_sound fm_small (by decide) small1 small3 fm_s13 fm_m13 fm_turn).mono ?_; rintro r w5 ⟨rfl, GA, m5⟩; clear m4)
    | (go_at_call 23; with_reducible refine (of_fo w5).mono ?_; rintro r w6 ⟨mO, FO, rfl, m6⟩; have t6 := two_of m5 m6; clear m5 m6)
    | (go_at_call 63; with_reducible refine (t_del t6 foA_64 foA_sound fo_small small0 small2 fo_s02 fo_m02 fo_within (u := false) rfl).mono ?_; rintro r w7 ⟨rfl, t7⟩; clear t6)
    | (go_at_call 65; with_reducible refine (t_allO t7 (by decide)).mono ?_; rintro r w8 ⟨rfl, GO, t8⟩; clear t7)
    | (go_at_call 18; with_reducible refine (t_tris_b t8 fmB_sound fmB_small fm_tris).mono ?_; rintro r w9 ⟨ad9, cap9, rfl, k9, t9⟩; clear t8)
    | (go_at_call 21; refine (t_same k9 t9 (by decide)).mono ?_; rintro r w10 ⟨rfl, t10⟩; clear t9 k9)
    | (go_at_call 18; with_reducible refine (t_tris_a t10 foB_sound foB_small fo_tris).mono ?_; rintro r w11 ⟨ad11, cap11, rfl, k11, t11⟩; clear t10)
    | (go_at_call 21; refine (t_same k11 t11 (by decide)).mono ?_; rintro r w12 ⟨rfl, t12⟩; clear t11 k11)
    | (go_at_call 63; with_reducible refine (t_del t12 foB_64 foB_sound foB_small small1 small3 fo_s13 fo_m13 fo_within2 (u := true) rfl).mono ?_; rintro r w13 ⟨rfl, t13⟩; clear t12))
  go_ret
  exact ⟨rfl, t13.out.a.keep⟩

end Go.Proofs.YtdoaniccefdkaaaGreatDoor

/- The plain mesh: an edge that was turned, and is turned again. -/
namespace Go.Proofs.YtdoaniccefdkaaaGreatDoor
open Tvf

theorem leftM_sgn {M : MeshM} {a b c : Int} (ha : 0 ≤ a ∧ a < M.P.length) (hb : 0 ≤ b ∧ b < M.P.length) (hc : 0 ≤ c ∧ c < M.P.length) : leftM M a b c = decide (0 < signM M a.toNat b.toNat c.toNat) := by
  unfold leftM signM
  have e : ∀ i : Int, 0 ≤ i → i < M.P.length → ptAt M i = M.P.getD i.toNat (0, 0) := by
    intro i h1 h2
    have := ptAt_yes (M := M) (x := i.toNat) (by omega)
    rwa [Int.toNat_of_nonneg h1] at this
  rw [e a ha.1 ha.2, e b hb.1 hb.2, e c hc.1 hc.2]

theorem makeR_ap {M : MeshM} {a b c : Int} (h : makeCode M a b c = 0) : (makeR M a b c).ap = up3 M.ap a b c := by unfold makeR; rw [if_pos h, makeM_ap]
theorem killR_ap {M : MeshM} {a b c : Int} (h : M.ap a b = some c) : (killR M a b c).ap = del3 M.ap a b c := by unfold killR; rw [if_pos h, killM_ap]

/-- an edge that may be turned, but for marks -/
structure CanTurn (M : MeshM) (a b c d : Int) : Prop where
  s : Sound M
  l : M.ap a b = some c
  r : M.ap b a = some d
  n1 : M.ap c d = none
  n2 : M.ap d c = none
  g1 : 0 < signM M c.toNat d.toNat b.toNat
  g2 : 0 < signM M d.toNat c.toNat a.toNat

theorem CanTurn.apd {M : MeshM} {a b c d : Int} (h : CanTurn M a b c d) : apD M a b = c ∧ apD M b a = d := by
  unfold apD; rw [h.l, h.r]; exact ⟨rfl, rfl⟩

set_option maxHeartbeats 4000000 in
theorem CanTurn.ap {M : MeshM} {a b c d : Int} (h : CanTurn M a b c d) (x y z : Int) :
    (turnR M a b).ap x y = some z ↔ (M.ap x y = some z ∧ ¬((x = a ∧ y = b) ∨ (x = b ∧ y = c) ∨ (x = c ∧ y = a)) ∧ ¬((x = b ∧ y = a) ∨ (x = a ∧ y = d) ∨ (x = d ∧ y = b))) ∨ ((x = d ∧ y = b ∧ z = c) ∨ (x = b ∧ y = c ∧ z = d) ∨ (x = c ∧ y = d ∧ z = b)) ∨ ((x = a ∧ y = d ∧ z = c) ∨ (x = d ∧ y = c ∧ z = a) ∨ (x = c ∧ y = a ∧ z = d)) := by
  have w1 := h.s.within3 h.l
  have w2 := h.s.within3 h.r
  have ne1 := h.s.rot.ne _ _ _ h.l
  have ne2 := h.s.rot.ne _ _ _ h.r
  have ne3 := sgn_toNat h.g1 ⟨w1.2.2.1, w2.2.2.1, w1.2.1.1⟩
  have k1 : (killR M a b c).ap = del3 M.ap a b c := killR_ap h.l
  have k1' : (killR M a b c).ap b a = some d := by rw [k1, del3_some]; exact ⟨h.r, by omega, by omega, by omega⟩
  have k2 : (killR (killR M a b c) b a d).ap = del3 (del3 M.ap a b c) b a d := by rw [killR_ap k1', k1]
  have k2P : (killR (killR M a b c) b a d).P = M.P := by rw [killR_P, killR_P]
  have K2 : ∀ x y z, (killR (killR M a b c) b a d).ap x y = some z ↔ M.ap x y = some z ∧ ¬((x = a ∧ y = b) ∨ (x = b ∧ y = c) ∨ (x = c ∧ y = a)) ∧ ¬((x = b ∧ y = a) ∨ (x = a ∧ y = d) ∨ (x = d ∧ y = b)) := by
    intro x y z
    rw [k2, del3_some, del3_some]
    constructor
    · rintro ⟨⟨e, q1, q2, q3⟩, q4, q5, q6⟩
      exact ⟨e, by omega, by omega⟩
    · rintro ⟨e, q1, q2⟩
      exact ⟨⟨e, by omega, by omega, by omega⟩, by omega, by omega, by omega⟩
  unfold turnR
  rw [h.apd.1, h.apd.2]
  generalize killR (killR M a b c) b a d = K at k2P K2 ⊢
  have none1 : ∀ x y, ((x = a ∧ y = b) ∨ (x = b ∧ y = c) ∨ (x = c ∧ y = a)) ∨ ((x = b ∧ y = a) ∨ (x = a ∧ y = d) ∨ (x = d ∧ y = b)) → K.ap x y = none := by
    intro x y q
    cases e : K.ap x y with
    | none => rfl
    | some z => have := (K2 x y z).1 e; exact absurd q (by omega)
  have none2 : ∀ x y, M.ap x y = none → K.ap x y = none := by
    intro x y q
    cases e : K.ap x y with
    | none => rfl
    | some z => have := ((K2 x y z).1 e).1; rw [q] at this; cases this
  have f1 : K.ap d b = none := none1 _ _ (by omega)
  have f2 : K.ap b c = none := none1 _ _ (by omega)
  have f3 : K.ap c d = none := none2 _ _ h.n1
  have c1 : makeCode K d b c = 0 := makeCode_of (by rw [k2P]; exact ⟨w2.2.2, w1.2.1, w1.2.2⟩) (by rw [signM_P k2P, ← signM_rot]; exact h.g1) ⟨f1, f2, f3⟩
  have m1 : (makeR K d b c).ap = up3 K.ap d b c := makeR_ap c1
  have m1P : (makeR K d b c).P = M.P := by rw [makeR_P, k2P]
  have M1 : ∀ x y z, (makeR K d b c).ap x y = some z ↔ K.ap x y = some z ∨ (x = d ∧ y = b ∧ z = c) ∨ (x = b ∧ y = c ∧ z = d) ∨ (x = c ∧ y = d ∧ z = b) := by
    intro x y z
    rw [m1, up3_some f1 f2 f3 (by omega)]
  generalize makeR K d b c = K1 at m1P M1 ⊢
  have none3 : ∀ x y, K.ap x y = none → ¬((x = d ∧ y = b) ∨ (x = b ∧ y = c) ∨ (x = c ∧ y = d)) → K1.ap x y = none := by
    intro x y q q2
    cases e : K1.ap x y with
    | none => rfl
    | some z =>
      rcases (M1 x y z).1 e with q3 | q3
      · rw [q] at q3; cases q3
      · exact absurd q3 (by omega)
  have e1 : K1.ap a d = none := none3 _ _ (none1 _ _ (by omega)) (by omega)
  have e2 : K1.ap d c = none := none3 _ _ (none2 _ _ h.n2) (by omega)
  have e3 : K1.ap c a = none := none3 _ _ (none1 _ _ (by omega)) (by omega)
  have c2 : makeCode K1 a d c = 0 := makeCode_of (by rw [m1P]; exact ⟨w1.1, w2.2.2, w1.2.2⟩) (by rw [signM_P m1P, signM_rot]; exact h.g2) ⟨e1, e2, e3⟩
  rw [makeR_ap c2, up3_some e1 e2 e3 (by omega), M1, K2]
  constructor
  · rintro ((q | q) | q)
    · exact .inl q
    · exact .inr (.inl q)
    · exact .inr (.inr q)
  · rintro (q | q | q)
    · exact .inl (.inl q)
    · exact .inl (.inr q)
    · exact .inr q

set_option maxHeartbeats 2000000 in
/-- turned, it may be turned again -/
theorem CanTurn.of_back {M N : MeshM} {a b c d : Int} (h : CanTurn M a b c d) (hS : Sound N) (hP : N.P = M.P) (HAP : ∀ x y z, N.ap x y = some z ↔ (M.ap x y = some z ∧ ¬((x = a ∧ y = b) ∨ (x = b ∧ y = c) ∨ (x = c ∧ y = a)) ∧ ¬((x = b ∧ y = a) ∨ (x = a ∧ y = d) ∨ (x = d ∧ y = b))) ∨ ((x = d ∧ y = b ∧ z = c) ∨ (x = b ∧ y = c ∧ z = d) ∨ (x = c ∧ y = d ∧ z = b)) ∨ ((x = a ∧ y = d ∧ z = c) ∨ (x = d ∧ y = c ∧ z = a) ∨ (x = c ∧ y = a ∧ z = d))) : CanTurn N c d b a := by
  have g3 : 0 < signM N b.toNat a.toNat d.toNat := by rw [signM_P hP]; exact h.s.sgn _ _ _ h.r
  have g4 : 0 < signM N a.toNat b.toNat c.toNat := by rw [signM_P hP]; exact h.s.sgn _ _ _ h.l
  have ne1 := h.s.rot.ne _ _ _ h.l
  have ne2 := h.s.rot.ne _ _ _ h.r
  have e1 : N.ap c d = some b := (HAP _ _ _).2 (.inr (.inl (.inr (.inr ⟨rfl, rfl, rfl⟩))))
  have e2 : N.ap d c = some a := (HAP _ _ _).2 (.inr (.inr (.inr (.inl ⟨rfl, rfl, rfl⟩))))
  have no : ∀ x y z, (x = a ∧ y = b) ∨ (x = b ∧ y = a) → ¬((True ∧ ¬((x = a ∧ y = b) ∨ (x = b ∧ y = c) ∨ (x = c ∧ y = a)) ∧ ¬((x = b ∧ y = a) ∨ (x = a ∧ y = d) ∨ (x = d ∧ y = b))) ∨ ((x = d ∧ y = b ∧ z = c) ∨ (x = b ∧ y = c ∧ z = d) ∨ (x = c ∧ y = d ∧ z = b)) ∨ ((x = a ∧ y = d ∧ z = c) ∨ (x = d ∧ y = c ∧ z = a) ∨ (x = c ∧ y = a ∧ z = d))) := by
    clear HAP hS hP g3 g4 e1 e2 h
    intro x y z q k
    omega
  have none1 : ∀ x y, (x = a ∧ y = b) ∨ (x = b ∧ y = a) → N.ap x y = none := by
    intro x y q
    cases e : N.ap x y with
    | none => rfl
    | some z =>
      refine absurd ?_ (no x y z q)
      rcases (HAP x y z).1 e with k | k
      · exact .inl ⟨trivial, k.2⟩
      · exact .inr k
  exact ⟨hS, e1, e2, none1 _ _ (.inr ⟨rfl, rfl⟩), none1 _ _ (.inl ⟨rfl, rfl⟩), g3, g4⟩

set_option maxHeartbeats 2000000 in
theorem CanTurn.ap_back {M N : MeshM} {a b c d : Int} (h : CanTurn M a b c d) (H : CanTurn N c d b a) (HAP : ∀ x y z, N.ap x y = some z ↔ (M.ap x y = some z ∧ ¬((x = a ∧ y = b) ∨ (x = b ∧ y = c) ∨ (x = c ∧ y = a)) ∧ ¬((x = b ∧ y = a) ∨ (x = a ∧ y = d) ∨ (x = d ∧ y = b))) ∨ ((x = d ∧ y = b ∧ z = c) ∨ (x = b ∧ y = c ∧ z = d) ∨ (x = c ∧ y = d ∧ z = b)) ∨ ((x = a ∧ y = d ∧ z = c) ∨ (x = d ∧ y = c ∧ z = a) ∨ (x = c ∧ y = a ∧ z = d))) : (turnR N c d).ap = M.ap := by
  refine opt_ext fun x y z => ?_
  have r1 := h.s.rot.rot _ _ _ h.l
  have r2 := h.s.rot.rot _ _ _ r1
  have s1 := h.s.rot.rot _ _ _ h.r
  have s2 := h.s.rot.rot _ _ _ s1
  rw [H.ap, HAP]
  constructor
  · rintro (⟨q | q | q, q1, q2⟩ | (⟨rfl, rfl, rfl⟩ | ⟨rfl, rfl, rfl⟩ | ⟨rfl, rfl, rfl⟩) | (⟨rfl, rfl, rfl⟩ | ⟨rfl, rfl, rfl⟩ | ⟨rfl, rfl, rfl⟩))
    · exact q.1
    · exfalso; clear HAP H h r1 r2 s1 s2; omega
    · exfalso; clear HAP H h r1 r2 s1 s2; omega
    · exact s1
    · exact s2
    · exact h.r
    · exact r2
    · exact h.l
    · exact r1
  · intro e
    by_cases p1 : (x = a ∧ y = b) ∨ (x = b ∧ y = c) ∨ (x = c ∧ y = a)
    · refine .inr (.inr ?_)
      rcases p1 with ⟨rfl, rfl⟩ | ⟨rfl, rfl⟩ | ⟨rfl, rfl⟩
      · rw [h.l] at e; cases e; exact .inr (.inl ⟨rfl, rfl, rfl⟩)
      · rw [r1] at e; cases e; exact .inr (.inr ⟨rfl, rfl, rfl⟩)
      · rw [r2] at e; cases e; exact .inl ⟨rfl, rfl, rfl⟩
    · by_cases p2 : (x = b ∧ y = a) ∨ (x = a ∧ y = d) ∨ (x = d ∧ y = b)
      · refine .inr (.inl ?_)
        rcases p2 with ⟨rfl, rfl⟩ | ⟨rfl, rfl⟩ | ⟨rfl, rfl⟩
        · rw [h.r] at e; cases e; exact .inr (.inr ⟨rfl, rfl, rfl⟩)
        · rw [s1] at e; cases e; exact .inl ⟨rfl, rfl, rfl⟩
        · rw [s2] at e; cases e; exact .inr (.inl ⟨rfl, rfl, rfl⟩)
      · have t1 : ¬(x = c ∧ y = d) := by rintro ⟨rfl, rfl⟩; rw [h.n1] at e; cases e
        have t2 : ¬(x = d ∧ y = c) := by rintro ⟨rfl, rfl⟩; rw [h.n2] at e; cases e
        refine .inl ⟨.inl ⟨e, p1, p2⟩, ?_, ?_⟩
        · clear HAP H h r1 r2 s1 s2 e; omega
        · clear HAP H h r1 r2 s1 s2 e; omega

theorem CanTurn.back {M : MeshM} {a b c d : Int} (h : CanTurn M a b c d) : CanTurn (turnR M a b) c d b a ∧ (turnR (turnR M a b) c d).ap = M.ap :=
  have H := h.of_back (turnR_sound h.s a b) (turnR_P M a b) h.ap
  ⟨H, h.ap_back H h.ap⟩

theorem makeR_fx (M : MeshM) (a b c : Int) : (makeR M a b c).fx = M.fx := by unfold makeR; split <;> rfl
theorem killR_fx (M : MeshM) (a b c : Int) : (killR M a b c).fx = M.fx := by unfold killR; split <;> rfl
theorem turnR_fx (M : MeshM) (a b : Int) : (turnR M a b).fx = M.fx := by unfold turnR; rw [makeR_fx, makeR_fx, killR_fx, killR_fx]

/-- what may be turned -/
theorem mayB_can {M : MeshM} (hs : Sound M) {a b : Int} (h1 : shB M a b = true) (h2 : mayB M a b = true) : CanTurn M a b (apD M a b) (apD M b a) := by
  unfold shB at h1
  unfold mayB mayM at h2
  simp only [Bool.and_eq_true, Bool.not_eq_true', Option.isSome_eq_false_iff, Option.isNone_iff_eq_none, Option.isSome_iff_exists] at h1 h2
  obtain ⟨⟨c, hc⟩, ⟨d, hd⟩⟩ := h1
  have e1 : apD M a b = c := by unfold apD; rw [hc]; rfl
  have e2 : apD M b a = d := by unfold apD; rw [hd]; rfl
  rw [e1, e2] at h2 ⊢
  have w1 := hs.within3 hc
  have w2 := hs.within3 hd
  obtain ⟨_, h3, h4, h5, h6⟩ := h2
  rw [leftM_sgn w1.2.2 w2.2.2 w1.2.1, decide_eq_true_eq] at h5
  rw [leftM_sgn w2.2.2 w1.2.2 w1.1, decide_eq_true_eq] at h6
  exact ⟨hs, hc, hd, h3, h4, h5, h6⟩

theorem CanTurn.may {M : MeshM} {a b c d : Int} (h : CanTurn M a b c d) : shB M a b = true ∧ mayB M a b = !(M.fx (minI a b) (maxI a b)).isSome := by
  have w1 := h.s.within3 h.l
  have w2 := h.s.within3 h.r
  constructor
  · unfold shB; rw [h.l, h.r]; rfl
  · unfold mayB mayM
    rw [h.apd.1, h.apd.2, h.n1, h.n2, leftM_sgn w1.2.2 w2.2.2 w1.2.1, leftM_sgn w2.2.2 w1.2.2 w1.1, decide_eq_true h.g1, decide_eq_true h.g2]
    simp

/-- an edge turned and turned again -/
theorem turn_back {M : MeshM} (hs : Sound M) {a b : Int} (h1 : shB M a b = true) (h2 : mayB M a b = true) :
    ((turnR M a b).ap (apD M a b) (apD M b a)).isSome = true ∧ ((turnR M a b).ap (apD M b a) (apD M a b)).isSome = true ∧ ((turnR M a b).ap a b).isSome = false ∧ ((turnR M a b).ap b a).isSome = false ∧
    shB (turnR M a b) (apD M a b) (apD M b a) = true ∧ (((turnR M a b).fx (minI (apD M a b) (apD M b a)) (maxI (apD M a b) (apD M b a))).isSome = false → mayB (turnR M a b) (apD M a b) (apD M b a) = true) ∧
    (turnR (turnR M a b) (apD M a b) (apD M b a)).ap = M.ap := by
  have h := mayB_can hs h1 h2
  obtain ⟨H, e⟩ := h.back
  refine ⟨by rw [H.l]; rfl, by rw [H.r]; rfl, by rw [H.n2]; rfl, by rw [H.n1]; rfl, H.may.1, fun q => ?_, e⟩
  rw [H.may.2, q]; rfl

end Go.Proofs.YtdoaniccefdkaaaGreatDoor
