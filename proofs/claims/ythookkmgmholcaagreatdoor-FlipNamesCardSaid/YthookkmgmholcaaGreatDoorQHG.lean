/- The contracts of FlipNames' calls. -/
import Derived.Test.YthookkmgmholcaaGreatDoorQHF
import Derived.Test.YthookkmgmholcaaGreatDoorZD
namespace Go.Proofs.YthookkmgmholcaaGreatDoor
open Go.RowKit Tvf Go.Maps Go.WideMaps

theorem fm_pc (w : World) : PCells (w.alloc (.cells #[.float .f64 0, .float .f64 0, .float .f64 4616189618054758400, .float .f64 0, .float .f64 4616189618054758400, .float .f64 4607182418800017408, .float .f64 0, .float .f64 4607182418800017408, .float .f64 4611686018427387904, .float .f64 4621256167635550208] 25)) (some ⟨w.heap.size, 0, none⟩) fmP := by
  intro _
  refine ⟨_, 0, rfl, by simp, fun i hi => ?_⟩
  have : i = 0 ∨ i = 1 ∨ i = 2 ∨ i = 3 ∨ i = 4 := by simp [fmP] at hi; omega
  rw [World.cell?_alloc_at _ _ _ _ rfl, World.cell?_alloc_at _ _ _ _ rfl]
  rcases this with rfl | rfl | rfl | rfl | rfl <;> exact ⟨rfl, rfl⟩
theorem of_fm (w : World) :
    Calls Tryz.prog 14 #[.slice (some ⟨w.heap.size, 0, none⟩) 5 5, .slice (some ⟨w.heap.size + 1, 0, none⟩) 3 3] ((w.alloc (.cells #[.float .f64 0, .float .f64 0, .float .f64 4616189618054758400, .float .f64 0, .float .f64 4616189618054758400, .float .f64 4607182418800017408, .float .f64 0, .float .f64 4607182418800017408, .float .f64 4611686018427387904, .float .f64 4621256167635550208] 25)).alloc (.cells #[.int .i64 0, .int .i64 1, .int .i64 3, .int .i64 1, .int .i64 2, .int .i64 3, .int .i64 3, .int .i64 2, .int .i64 4] 32)) fun r w' => ∃ mb F, r = .returned (.tuple #[.pointer (some ⟨mb, 0, none⟩), .int .i64 0]) ∧ Hid (MB w w' mb 9 fmA F) := by
  have hk := kcells_new (w.alloc (.cells #[.float .f64 0, .float .f64 0, .float .f64 4616189618054758400, .float .f64 0, .float .f64 4616189618054758400, .float .f64 4607182418800017408, .float .f64 0, .float .f64 4607182418800017408, .float .f64 4611686018427387904, .float .f64 4621256167635550208] 25)) [(0, 1, 3), (1, 2, 3), (3, 2, 4)] 32
  rw [show (w.alloc (.cells #[.float .f64 0, .float .f64 0, .float .f64 4616189618054758400, .float .f64 0, .float .f64 4616189618054758400, .float .f64 4607182418800017408, .float .f64 0, .float .f64 4607182418800017408, .float .f64 4611686018427387904, .float .f64 4621256167635550208] 25)).heap.size = w.heap.size + 1 from by simp] at hk
  refine (of_ok fmP (some ⟨w.heap.size, 0, none⟩) 5 [(0, 1, 3), (1, 2, 3), (3, 2, 4)] (some ⟨w.heap.size + 1, 0, none⟩) 3 fm_64 fm_all (by rw [fmP_len]; omega) (by decide) fm_allOk ((w.alloc (.cells #[.float .f64 0, .float .f64 0, .float .f64 4616189618054758400, .float .f64 0, .float .f64 4616189618054758400, .float .f64 4607182418800017408, .float .f64 0, .float .f64 4607182418800017408, .float .f64 4611686018427387904, .float .f64 4621256167635550208] 25)).alloc (.cells #[.int .i64 0, .int .i64 1, .int .i64 3, .int .i64 1, .int .i64 2, .int .i64 3, .int .i64 3, .int .i64 2, .int .i64 4] 32)) ((fm_pc w).alloc _) hk).mono ?_
  rintro r w' ⟨mb, F, rfl, hm⟩
  exact ⟨mb, F, rfl, (hm.same fm_fold).up (((Below.refl _ w).alloc (Nat.le_refl _) _).alloc (by simp) _)⟩

theorem fo_pc (w : World) : PCells (w.alloc (.cells #[.float .f64 0, .float .f64 0, .float .f64 4621256167635550208, .float .f64 0, .float .f64 4621256167635550208, .float .f64 4621256167635550208, .float .f64 4607182418800017408, .float .f64 4611686018427387904] 25)) (some ⟨w.heap.size, 0, none⟩) foP := by
  intro _
  refine ⟨_, 0, rfl, by simp, fun i hi => ?_⟩
  have : i = 0 ∨ i = 1 ∨ i = 2 ∨ i = 3 := by simp [foP] at hi; omega
  rw [World.cell?_alloc_at _ _ _ _ rfl, World.cell?_alloc_at _ _ _ _ rfl]
  rcases this with rfl | rfl | rfl | rfl <;> exact ⟨rfl, rfl⟩
theorem of_fo (w : World) :
    Calls Tryz.prog 14 #[.slice (some ⟨w.heap.size, 0, none⟩) 4 4, .slice (some ⟨w.heap.size + 1, 0, none⟩) 2 2] ((w.alloc (.cells #[.float .f64 0, .float .f64 0, .float .f64 4621256167635550208, .float .f64 0, .float .f64 4621256167635550208, .float .f64 4621256167635550208, .float .f64 4607182418800017408, .float .f64 4611686018427387904] 25)).alloc (.cells #[.int .i64 0, .int .i64 1, .int .i64 2, .int .i64 0, .int .i64 2, .int .i64 3] 32)) fun r w' => ∃ mb F, r = .returned (.tuple #[.pointer (some ⟨mb, 0, none⟩), .int .i64 0]) ∧ Hid (MB w w' mb 6 foA F) := by
  have hk := kcells_new (w.alloc (.cells #[.float .f64 0, .float .f64 0, .float .f64 4621256167635550208, .float .f64 0, .float .f64 4621256167635550208, .float .f64 4621256167635550208, .float .f64 4607182418800017408, .float .f64 4611686018427387904] 25)) [(0, 1, 2), (0, 2, 3)] 32
  rw [show (w.alloc (.cells #[.float .f64 0, .float .f64 0, .float .f64 4621256167635550208, .float .f64 0, .float .f64 4621256167635550208, .float .f64 4621256167635550208, .float .f64 4607182418800017408, .float .f64 4611686018427387904] 25)).heap.size = w.heap.size + 1 from by simp] at hk
  refine (of_ok foP (some ⟨w.heap.size, 0, none⟩) 4 [(0, 1, 2), (0, 2, 3)] (some ⟨w.heap.size + 1, 0, none⟩) 2 fo_64 fo_all (by rw [foP_len]; omega) (by decide) fo_allOk ((w.alloc (.cells #[.float .f64 0, .float .f64 0, .float .f64 4621256167635550208, .float .f64 0, .float .f64 4621256167635550208, .float .f64 4621256167635550208, .float .f64 4607182418800017408, .float .f64 4611686018427387904] 25)).alloc (.cells #[.int .i64 0, .int .i64 1, .int .i64 2, .int .i64 0, .int .i64 2, .int .i64 3] 32)) ((fo_pc w).alloc _) hk).mono ?_
  rintro r w' ⟨mb, F, rfl, hm⟩
  exact ⟨mb, F, rfl, (hm.same fo_fold).up (((Below.refl _ w).alloc (Nat.le_refl _) _).alloc (by simp) _)⟩

theorem fw_pc (w : World) : PCells (w.alloc (.cells #[.float .f64 0, .float .f64 0, .float .f64 4616189618054758400, .float .f64 0, .float .f64 4611686018427387904, .float .f64 4611686018427387904, .float .f64 4611686018427387904, .float .f64 13835058055282163712, .float .f64 4621256167635550208, .float .f64 0] 25)) (some ⟨w.heap.size, 0, none⟩) fwP := by
  intro _
  refine ⟨_, 0, rfl, by simp, fun i hi => ?_⟩
  have : i = 0 ∨ i = 1 ∨ i = 2 ∨ i = 3 ∨ i = 4 := by simp [fwP] at hi; omega
  rw [World.cell?_alloc_at _ _ _ _ rfl, World.cell?_alloc_at _ _ _ _ rfl]
  rcases this with rfl | rfl | rfl | rfl | rfl <;> exact ⟨rfl, rfl⟩
theorem of_fw (w : World) :
    Calls Tryz.prog 14 #[.slice (some ⟨w.heap.size, 0, none⟩) 5 5, .slice (some ⟨w.heap.size + 1, 0, none⟩) 3 3] ((w.alloc (.cells #[.float .f64 0, .float .f64 0, .float .f64 4616189618054758400, .float .f64 0, .float .f64 4611686018427387904, .float .f64 4611686018427387904, .float .f64 4611686018427387904, .float .f64 13835058055282163712, .float .f64 4621256167635550208, .float .f64 0] 25)).alloc (.cells #[.int .i64 0, .int .i64 1, .int .i64 2, .int .i64 0, .int .i64 3, .int .i64 1, .int .i64 2, .int .i64 3, .int .i64 4] 32)) fun r w' => ∃ mb F, r = .returned (.tuple #[.pointer (some ⟨mb, 0, none⟩), .int .i64 0]) ∧ Hid (MB w w' mb 9 fwA F) := by
  have hk := kcells_new (w.alloc (.cells #[.float .f64 0, .float .f64 0, .float .f64 4616189618054758400, .float .f64 0, .float .f64 4611686018427387904, .float .f64 4611686018427387904, .float .f64 4611686018427387904, .float .f64 13835058055282163712, .float .f64 4621256167635550208, .float .f64 0] 25)) [(0, 1, 2), (0, 3, 1), (2, 3, 4)] 32
  rw [show (w.alloc (.cells #[.float .f64 0, .float .f64 0, .float .f64 4616189618054758400, .float .f64 0, .float .f64 4611686018427387904, .float .f64 4611686018427387904, .float .f64 4611686018427387904, .float .f64 13835058055282163712, .float .f64 4621256167635550208, .float .f64 0] 25)).heap.size = w.heap.size + 1 from by simp] at hk
  refine (of_ok fwP (some ⟨w.heap.size, 0, none⟩) 5 [(0, 1, 2), (0, 3, 1), (2, 3, 4)] (some ⟨w.heap.size + 1, 0, none⟩) 3 fw_64 fw_all (by rw [fwP_len]; omega) (by decide) fw_allOk ((w.alloc (.cells #[.float .f64 0, .float .f64 0, .float .f64 4616189618054758400, .float .f64 0, .float .f64 4611686018427387904, .float .f64 4611686018427387904, .float .f64 4611686018427387904, .float .f64 13835058055282163712, .float .f64 4621256167635550208, .float .f64 0] 25)).alloc (.cells #[.int .i64 0, .int .i64 1, .int .i64 2, .int .i64 0, .int .i64 3, .int .i64 1, .int .i64 2, .int .i64 3, .int .i64 4] 32)) ((fw_pc w).alloc _) hk).mono ?_
  rintro r w' ⟨mb, F, rfl, hm⟩
  exact ⟨mb, F, rfl, (hm.same fw_fold).up (((Below.refl _ w).alloc (Nat.le_refl _) _).alloc (by simp) _)⟩

theorem fm_small : fmA.P.length ≤ 1048576 := by rw [fmA_P, fmP_len]; omega
theorem fmB_small : fmB.P.length ≤ 1048576 := by rw [fmB_P, fmP_len]; omega
theorem fo_small : foA.P.length ≤ 1048576 := by rw [foA_P, foP_len]; omega
theorem foB_small : foB.P.length ≤ 1048576 := by rw [foB_P, foP_len]; omega
theorem foX_small : foX.P.length ≤ 1048576 := by rw [foX_P, foP_len]; omega
theorem fw_small : fwA.P.length ≤ 1048576 := by rw [fwA_P, fwP_len]; omega
theorem fxM_sound {M : MeshM} (h : Sound M) (f : Int → Int → Option Int) : Sound (fxM M f) := ⟨h.rot, h.win, h.sgn, h.cnt, h.sp⟩
theorem foX_sound : Sound foX := by unfold foX; exact fxM_sound foA_sound _
theorem fmA_64 : ∀ p, p ∈ fmA.P → pt64 p := by rw [fmA_P]; exact fm_64
theorem fmB_64 : ∀ p, p ∈ fmB.P → pt64 p := by rw [fmB_P]; exact fm_64
theorem foA_64 : ∀ p, p ∈ foA.P → pt64 p := by rw [foA_P]; exact fo_64
theorem foB_64 : ∀ p, p ∈ foB.P → pt64 p := by rw [foB_P]; exact fo_64
theorem foX_64 : ∀ p, p ∈ foX.P → pt64 p := by rw [foX_P]; exact fo_64
theorem fwA_64 : ∀ p, p ∈ fwA.P → pt64 p := by rw [fwA_P]; exact fw_64
theorem small7 : i64ok 7 := by unfold i64ok; omega
theorem smallm3 : i64ok (-3) := by unfold i64ok; omega

theorem fm_within (w : World) : Calls Tryz.prog 65 #[V (ptAt fmA 1), V (ptAt fmA 3), V (ptAt fmA (apD fmA 1 3)), V (ptAt fmA (apD fmA 3 1))] w fun r w' => r = .returned (.bool false) ∧ Below w.heap.size w w' := by
  have h := fm_p
  simp only [Prod.mk.injEq] at h
  obtain ⟨h1, h2, h3, h4⟩ := h
  rw [h1, h2, h3, h4]
  exact wt1 w
theorem fo_within (w : World) : Calls Tryz.prog 65 #[V (ptAt foA 0), V (ptAt foA 2), V (ptAt foA (apD foA 0 2)), V (ptAt foA (apD foA 2 0))] w fun r w' => r = .returned (.bool true) ∧ Below w.heap.size w w' := by
  have h := fo_p
  simp only [Prod.mk.injEq] at h
  obtain ⟨h1, h2, h3, h4⟩ := h
  rw [h1, h2, h3, h4]
  exact wt2 w
theorem fo_within2 (w : World) : Calls Tryz.prog 65 #[V (ptAt foB 1), V (ptAt foB 3), V (ptAt foB (apD foB 1 3)), V (ptAt foB (apD foB 3 1))] w fun r w' => r = .returned (.bool false) ∧ Below w.heap.size w w' := by
  have h := fo_p2
  simp only [Prod.mk.injEq] at h
  obtain ⟨h1, h2, h3, h4⟩ := h
  rw [h1, h2, h3, h4]
  exact wt3 w

/-! ### one mesh -/
section
variable {w0 w : World} {mb n : Nat} {M : MeshM} {F : Nat → Prop}
theorem c_del_yes (h : Hid (MB w0 w mb n M F)) (h64 : ∀ p, p ∈ M.P → pt64 p) (hs : Sound M) (hl : M.P.length ≤ 1048576) {a b : Int} (ha : i64ok a) (hb : i64ok b) (hq1 : shB M a b = true) (hq2 : mayB M a b = true)
    (hW : ∀ w, Calls Tryz.prog 65 #[V (ptAt M a), V (ptAt M b), V (ptAt M (apD M a b)), V (ptAt M (apD M b a))] w fun r w' => r = .returned (.bool false) ∧ Below w.heap.size w w') :
    Calls Tryz.prog 18 #[.pointer (some ⟨mb, 0, none⟩), .int .i64 a, .int .i64 b] w fun r w' => r = .returned (.bool true) ∧ Below w.heap.size w w' ∧ Hid (MB w0 w' mb n M F) :=
  (del_yes h.out.at_ h64 hs hl ha hb hq1 hq2 false hW).mono fun _ _ h1 => ⟨h1.1, h1.2, h.out.below h1.2⟩
theorem c_del_no (h : Hid (MB w0 w mb n M F)) (h64 : ∀ p, p ∈ M.P → pt64 p) (hs : Sound M) (hl : M.P.length ≤ 1048576) {a b : Int} (ha : i64ok a) (hb : i64ok b) (hq : (shB M a b && mayB M a b) = false) :
    Calls Tryz.prog 18 #[.pointer (some ⟨mb, 0, none⟩), .int .i64 a, .int .i64 b] w fun r w' => r = .returned (.bool true) ∧ Below w.heap.size w w' ∧ Hid (MB w0 w' mb n M F) :=
  (del_no h.out.at_ h64 hs hl ha hb hq).mono fun _ _ h1 => ⟨h1.1, h1.2, h.out.below h1.2⟩
theorem c_may (h : Hid (MB w0 w mb n M F)) (h64 : ∀ p, p ∈ M.P → pt64 p) (hs : Sound M) (hl : M.P.length ≤ 1048576) {a b : Int} (ha : i64ok a) (hb : i64ok b) {q : Bool} (hq : (shB M a b && mayB M a b) = q) :
    Calls Tryz.prog 17 #[.pointer (some ⟨mb, 0, none⟩), .int .i64 a, .int .i64 b] w fun r w' => r = .returned (.bool q) ∧ Below w.heap.size w w' ∧ Hid (MB w0 w' mb n M F) :=
  (fmay_walk h.out.at_ h64 hs hl ha hb).mono fun _ _ h1 => ⟨by rw [h1.1, hq], h1.2, h.out.below h1.2⟩
theorem c_turn_none (h : Hid (MB w0 w mb n M F)) {a b : Int} (ha : i64ok a) (hb : i64ok b) (hq : shB M a b = false) :
    Calls Tryz.prog 16 #[.pointer (some ⟨mb, 0, none⟩), .int .i64 a, .int .i64 b] w fun r w' => r = .returned (.int .i64 5) ∧ Below w.heap.size w w' ∧ Hid (MB w0 w' mb n M F) :=
  (turn_none h.out.at_ ha hb hq).mono fun _ _ h1 => ⟨h1.1, h1.2, h.out.below h1.2⟩
theorem c_turn_no (h : Hid (MB w0 w mb n M F)) (h64 : ∀ p, p ∈ M.P → pt64 p) (hs : Sound M) (hl : M.P.length ≤ 1048576) {a b : Int} (ha : i64ok a) (hb : i64ok b) (hq1 : shB M a b = true) (hq2 : mayB M a b = false) :
    Calls Tryz.prog 16 #[.pointer (some ⟨mb, 0, none⟩), .int .i64 a, .int .i64 b] w fun r w' => r = .returned (.int .i64 14) ∧ Below w.heap.size w w' ∧ Hid (MB w0 w' mb n M F) :=
  (turn_no h.out.at_ h64 hs hl ha hb hq1 hq2).mono fun _ _ h1 => ⟨h1.1, h1.2, h.out.below h1.2⟩
theorem c_turn_ok (h : Hid (MB w0 w mb n M F)) (h64 : ∀ p, p ∈ M.P → pt64 p) (hs : Sound M) (hl : M.P.length ≤ 1048576) (hn : n ≤ 100000000) {a b : Int} (ha : i64ok a) (hb : i64ok b) (hq1 : shB M a b = true) (hq2 : mayB M a b = true) {N : MeshM} (hN : turnR M a b = N) :
    Calls Tryz.prog 16 #[.pointer (some ⟨mb, 0, none⟩), .int .i64 a, .int .i64 b] w fun r w' => r = .returned (.int .i64 0) ∧ ∃ G, Hid (MB w0 w' mb (n + 12) N G) :=
  (turn_ok h.out h64 hs hl hn ha hb hq1 hq2).mono fun _ _ ⟨h1, G, h2, _, _⟩ => ⟨h1, G, h2.same hN⟩
end

theorem c_fix {w0 w : World} {mb n : Nat} {F : Nat → Prop} (h : Hid (MB w0 w mb n foA F)) (hn : n ≤ 1000) :
    Calls Tryz.prog 15 #[.pointer (some ⟨mb, 0, none⟩), .int .i64 2, .int .i64 0, .int .i64 7] w fun r w' => r = .returned (.int .i64 0) ∧ Hid (MB w0 w' mb (n + 1) foX F) := by
  refine (fix_ok (v := 7) h.out (by omega) small2 small0 fo_h2 fo_h0 (by decide)).mono ?_
  rintro r w' ⟨rfl, hm⟩
  exact ⟨rfl, hm.same (by rw [foX])⟩
theorem c_allX {w0 w : World} {mb n : Nat} {F : Nat → Prop} (h : Hid (MB w0 w mb n foX F)) (hn : n ≤ 1000) :
    Calls Tryz.prog 19 #[.pointer (some ⟨mb, 0, none⟩)] w fun r w' => r = .returned (.tuple #[.int .i64 0, .int .i64 0]) ∧ ∃ G, Hid (MB w0 w' mb n foX G) := by
  refine (all_quiet h.out (by omega) fx_edges (quiet_of fx_quiet) ⟨by decide, by decide, by decide, sm_of (by decide)⟩ foX_sound foX_64 foX_small).mono ?_
  rintro r w' ⟨rfl, G, h1, _, _⟩
  exact ⟨rfl, G, h1⟩

/-! ### two meshes -/
theorem two_of {w0 w1 w : World} {mb n : Nat} {M : MeshM} {F : Nat → Prop} {mb2 n2 : Nat} {M2 : MeshM} {F2 : Nat → Prop} (h2 : Hid (MB w0 w1 mb2 n2 M2 F2)) (h : Hid (MB w1 w mb n M F)) : Hid (Two w0 w mb n M F mb2 n2 M2 F2) :=
  ⟨h.out.up h2.out.keep, h2.out.below h.out.keep, fun i hi e => by have := h2.out.at_.flt i hi; have := h.out.new i e; omega⟩
section
variable {w0 w : World} {mb n : Nat} {M : MeshM} {F : Nat → Prop} {mb2 n2 : Nat} {M2 : MeshM} {F2 : Nat → Prop}
theorem t_del (h : Hid (Two w0 w mb n M F mb2 n2 M2 F2)) (h64 : ∀ p, p ∈ M.P → pt64 p) (hs : Sound M) (hl : M.P.length ≤ 1048576) {a b : Int} (ha : i64ok a) (hb : i64ok b) (hq1 : shB M a b = true) (hq2 : mayB M a b = true) {v u : Bool}
    (hW : ∀ w, Calls Tryz.prog 65 #[V (ptAt M a), V (ptAt M b), V (ptAt M (apD M a b)), V (ptAt M (apD M b a))] w fun r w' => r = .returned (.bool v) ∧ Below w.heap.size w w') (hu : (!v) = u) :
    Calls Tryz.prog 18 #[.pointer (some ⟨mb, 0, none⟩), .int .i64 a, .int .i64 b] w fun r w' => r = .returned (.bool u) ∧ Hid (Two w0 w' mb n M F mb2 n2 M2 F2) :=
  (del_yes h.out.a.at_ h64 hs hl ha hb hq1 hq2 v hW).mono fun _ _ h1 => ⟨by rw [h1.1, hu], h.out.below h1.2⟩
theorem Two.turn2 {n' : Nat} {M' : MeshM} {G : Nat → Prop} {w' : World} (h : Two w0 w mb n M F mb2 n2 M2 F2) (hm : MB w0 w' mb n' M' G) (hs : Stay F w w') (hG : ∀ i, G i → F i ∨ w.heap.size ≤ i) : Two w0 w' mb n' M' G mb2 n2 M2 F2 :=
  ⟨hm, h.b.apart hs hm.keep h.off, fun i hi e => (hG i e).elim (h.off i hi) (fun e => by have := h.b.at_.flt i hi; omega)⟩
theorem t_tris_a {T : List Tri3} (h : Hid (Two w0 w mb n M F mb2 n2 M2 F2)) (hs : Sound M) (hl : M.P.length ≤ 1048576) (hT : trisL M.ap M.P.length = T) :
    Calls Tryz.prog 23 #[.pointer (some ⟨mb, 0, none⟩)] w fun r w' => ∃ ad cap, r = .returned (.slice ad T.length cap) ∧ Hid (KCells encT w' ad T) ∧ Hid (Two w0 w' mb n M F mb2 n2 M2 F2) := by
  have := tris_mb h.out.a hs hl
  rw [hT] at this
  refine this.mono ?_
  rintro r w' ⟨ad, cap, rfl, hk, _, _, hb⟩
  exact ⟨ad, cap, rfl, hk, h.out.below hb⟩
theorem t_tris_b {T : List Tri3} (h : Hid (Two w0 w mb n M F mb2 n2 M2 F2)) (hs : Sound M2) (hl : M2.P.length ≤ 1048576) (hT : trisL M2.ap M2.P.length = T) :
    Calls Tryz.prog 23 #[.pointer (some ⟨mb2, 0, none⟩)] w fun r w' => ∃ ad cap, r = .returned (.slice ad T.length cap) ∧ Hid (KCells encT w' ad T) ∧ Hid (Two w0 w' mb n M F mb2 n2 M2 F2) := by
  have := tris_mb h.out.b hs hl
  rw [hT] at this
  refine this.mono ?_
  rintro r w' ⟨ad, cap, rfl, hk, _, _, hb⟩
  exact ⟨ad, cap, rfl, hk, h.out.below hb⟩
theorem t_same {T : List Tri3} {ad : Option Addr} {cap c2 : Nat} (hk : Hid (KCells encT w ad T)) (h : Hid (Two w0 w mb n M F mb2 n2 M2 F2)) (hl : T.length ≤ 1000) :
    Calls Tryz.prog 25 #[.slice ad T.length cap, .slice (some ⟨w.heap.size, 0, none⟩) T.length c2] (w.alloc (.cells (cellsK encT T).toArray 32)) fun r w' => r = .returned (.bool true) ∧ Hid (Two w0 w' mb n M F mb2 n2 M2 F2) :=
  (sameTris_walk T ad (some ⟨w.heap.size, 0, none⟩) cap c2 _ (hk.out.below ((Below.refl _ w).alloc (Nat.le_refl _) _)) (kcells_new w T _) (by omega)).mono fun _ _ h1 => ⟨h1.1, (h.out.below ((Below.refl _ w).alloc (Nat.le_refl _) _)).below h1.2⟩
end

theorem t_allO {w0 w : World} {mb n : Nat} {F : Nat → Prop} {mb2 n2 : Nat} {M2 : MeshM} {F2 : Nat → Prop} (h : Hid (Two w0 w mb n foA F mb2 n2 M2 F2)) (hn : n ≤ 1000) :
    Calls Tryz.prog 19 #[.pointer (some ⟨mb, 0, none⟩)] w fun r w' => r = .returned (.tuple #[.int .i64 1, .int .i64 0]) ∧ ∃ G, Hid (Two w0 w' mb (n + 12) foB G mb2 n2 M2 F2) := by
  refine (all_turns h.out.a (by omega) fo_edges (quiet_of fo_q1) fo_s02 fo_m02 fo_four fo_turn (quiet_of fo_q2) (quiet_of fo_q3) foA_sound foA_64 fo_small fo_within).mono ?_
  rintro r w' ⟨rfl, G, h1, h2, h3⟩
  exact ⟨rfl, G, h.out.turn2 h1 h2 h3⟩

/-! ### nobody's mesh -/
set_option maxRecDepth 100000 in
set_option maxHeartbeats 1000000 in
theorem shared_nil (a b : Int) (w : World) :
    Calls Tryz.prog 63 #[.pointer none, .int .i64 a, .int .i64 b] w fun r w' => r = .returned (.tuple #[.agg #[.int .i64 a, .int .i64 b, .int .i64 0, .int .i64 0], .bool false]) ∧ Below w.heap.size w w' := by
  have HX := Lib.hid (fun W => nil_Apex a b W)
  have HY := Lib.hid (fun W => nil_Apex b a W)
  go_enter Tryz.func63, Tryz.ntmps63
  go_wp2_with (first
    | (go_at_call 24; with_reducible refine (HX.out _).mono ?_; rintro r w1 ⟨rfl, rfl⟩)
    | (go_at_call 24; with_reducible refine (HY.out _).mono ?_; rintro r w2 ⟨rfl, rfl⟩))
  go_returns
  exact ⟨rfl, (Below.refl _ _).alloc (Nat.le_refl _) _⟩
set_option maxRecDepth 100000 in
set_option maxHeartbeats 1000000 in
theorem fmay_nil (a b : Int) (w : World) :
    Calls Tryz.prog 17 #[.pointer none, .int .i64 a, .int .i64 b] w fun r w' => r = .returned (.bool false) ∧ Below w.heap.size w w' := by
  have HS := Lib.hid (shared_nil a b w)
  go_enter Tryz.func17, Tryz.ntmps17
  go_wp2_with (go_at_call 63; with_reducible refine HS.out.mono ?_; rintro r w1 ⟨rfl, b1⟩)
  go_ret
  exact ⟨rfl, b1.alloc b1.size _⟩

end Go.Proofs.YthookkmgmholcaaGreatDoor
