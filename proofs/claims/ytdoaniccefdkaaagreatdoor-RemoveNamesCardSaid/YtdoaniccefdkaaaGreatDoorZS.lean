/- Part of the proof. No conditions. -/
import Derived.Test.YtdoaniccefdkaaaGreatDoorZH
import Derived.Test.YtdoaniccefdkaaaGreatDoorZO
import Derived.Test.YtdoaniccefdkaaaGreatDoorZR

set_option linter.all false
/- The contracts of RemoveNames' calls. -/
namespace Go.Proofs.YtdoaniccefdkaaaGreatDoor
open Go.RowKit Tvf Go.Maps Go.WideMaps

theorem ex_allOk : allOk (emptyM exP) [(0, 1, 4), (1, 2, 4), (2, 3, 4), (0, 4, 3)] := allOk_of _ _ ex_ok
theorem ex_fold : foldM (emptyM exP) [(0, 1, 4), (1, 2, 4), (2, 3, 4), (0, 4, 3)] = exA := by unfold exA exT; rfl
theorem ex_pc (w : World) : PCells (w.alloc (.cells #[.float .f64 0, .float .f64 0, .float .f64 4616189618054758400, .float .f64 0, .float .f64 4616189618054758400, .float .f64 4616189618054758400, .float .f64 0, .float .f64 4616189618054758400, .float .f64 4607182418800017408, .float .f64 4611686018427387904] 52)) (some ⟨w.heap.size, 0, none⟩) exP := by
  intro _
  refine ⟨_, 0, rfl, by simp, fun i hi => ?_⟩
  have : i = 0 ∨ i = 1 ∨ i = 2 ∨ i = 3 ∨ i = 4 := by simp [exP] at hi; omega
  rw [World.cell?_alloc_at _ _ _ _ rfl, World.cell?_alloc_at _ _ _ _ rfl]
  rcases this with rfl | rfl | rfl | rfl | rfl <;> exact ⟨rfl, rfl⟩
theorem of_ex (w : World) :
    Calls Tryz.prog 23 #[.slice (some ⟨w.heap.size, 0, none⟩) 5 5, .slice (some ⟨w.heap.size + 1, 0, none⟩) 4 4] ((w.alloc (.cells #[.float .f64 0, .float .f64 0, .float .f64 4616189618054758400, .float .f64 0, .float .f64 4616189618054758400, .float .f64 4616189618054758400, .float .f64 0, .float .f64 4616189618054758400, .float .f64 4607182418800017408, .float .f64 4611686018427387904] 52)).alloc (.cells #[.int .i64 0, .int .i64 1, .int .i64 4, .int .i64 1, .int .i64 2, .int .i64 4, .int .i64 2, .int .i64 3, .int .i64 4, .int .i64 0, .int .i64 4, .int .i64 3] 45)) fun r w' => ∃ mb F, r = .returned (.tuple #[.pointer (some ⟨mb, 0, none⟩), .int .i64 0]) ∧ Hid (MB w w' mb 12 exA F) := by
  have hk := kcells_new (w.alloc (.cells #[.float .f64 0, .float .f64 0, .float .f64 4616189618054758400, .float .f64 0, .float .f64 4616189618054758400, .float .f64 4616189618054758400, .float .f64 0, .float .f64 4616189618054758400, .float .f64 4607182418800017408, .float .f64 4611686018427387904] 52)) [(0, 1, 4), (1, 2, 4), (2, 3, 4), (0, 4, 3)] 45
  rw [show (w.alloc (.cells #[.float .f64 0, .float .f64 0, .float .f64 4616189618054758400, .float .f64 0, .float .f64 4616189618054758400, .float .f64 4616189618054758400, .float .f64 0, .float .f64 4616189618054758400, .float .f64 4607182418800017408, .float .f64 4611686018427387904] 52)).heap.size = w.heap.size + 1 from by simp] at hk
  refine (of_ok exP (some ⟨w.heap.size, 0, none⟩) 5 [(0, 1, 4), (1, 2, 4), (2, 3, 4), (0, 4, 3)] (some ⟨w.heap.size + 1, 0, none⟩) 4 ex_64 ex_all (by rw [exP_len]; omega) (by decide) ex_allOk ((w.alloc (.cells #[.float .f64 0, .float .f64 0, .float .f64 4616189618054758400, .float .f64 0, .float .f64 4616189618054758400, .float .f64 4616189618054758400, .float .f64 0, .float .f64 4616189618054758400, .float .f64 4607182418800017408, .float .f64 4611686018427387904] 52)).alloc (.cells #[.int .i64 0, .int .i64 1, .int .i64 4, .int .i64 1, .int .i64 2, .int .i64 4, .int .i64 2, .int .i64 3, .int .i64 4, .int .i64 0, .int .i64 4, .int .i64 3] 45)) ((ex_pc w).alloc _) hk).mono ?_
  rintro r w' ⟨mb, F, rfl, hm⟩
  exact ⟨mb, F, rfl, (hm.same ex_fold).up (((Below.refl _ w).alloc (Nat.le_refl _) _).alloc (by simp) _)⟩

theorem xw_allOk : allOk (emptyM xwP) [(0, 1, 4), (1, 2, 4), (2, 3, 4), (0, 4, 3), (2, 0, 5)] := allOk_of _ _ xw_ok
theorem xw_fold : foldM (emptyM xwP) [(0, 1, 4), (1, 2, 4), (2, 3, 4), (0, 4, 3), (2, 0, 5)] = xwA := by unfold xwA xwT; rfl
theorem xw_pc (w : World) : PCells (w.alloc (.cells #[.float .f64 0, .float .f64 0, .float .f64 4616189618054758400, .float .f64 0, .float .f64 4616189618054758400, .float .f64 4616189618054758400, .float .f64 0, .float .f64 4616189618054758400, .float .f64 4607182418800017408, .float .f64 4611686018427387904, .float .f64 4621256167635550208, .float .f64 13844628204490326016] 52)) (some ⟨w.heap.size, 0, none⟩) xwP := by
  intro _
  refine ⟨_, 0, rfl, by simp, fun i hi => ?_⟩
  have : i = 0 ∨ i = 1 ∨ i = 2 ∨ i = 3 ∨ i = 4 ∨ i = 5 := by simp [xwP] at hi; omega
  rw [World.cell?_alloc_at _ _ _ _ rfl, World.cell?_alloc_at _ _ _ _ rfl]
  rcases this with rfl | rfl | rfl | rfl | rfl | rfl <;> exact ⟨rfl, rfl⟩
theorem of_xw (w : World) :
    Calls Tryz.prog 23 #[.slice (some ⟨w.heap.size, 0, none⟩) 6 6, .slice (some ⟨w.heap.size + 1, 0, none⟩) 5 5] ((w.alloc (.cells #[.float .f64 0, .float .f64 0, .float .f64 4616189618054758400, .float .f64 0, .float .f64 4616189618054758400, .float .f64 4616189618054758400, .float .f64 0, .float .f64 4616189618054758400, .float .f64 4607182418800017408, .float .f64 4611686018427387904, .float .f64 4621256167635550208, .float .f64 13844628204490326016] 52)).alloc (.cells #[.int .i64 0, .int .i64 1, .int .i64 4, .int .i64 1, .int .i64 2, .int .i64 4, .int .i64 2, .int .i64 3, .int .i64 4, .int .i64 0, .int .i64 4, .int .i64 3, .int .i64 2, .int .i64 0, .int .i64 5] 45)) fun r w' => ∃ mb F, r = .returned (.tuple #[.pointer (some ⟨mb, 0, none⟩), .int .i64 0]) ∧ Hid (MB w w' mb 15 xwA F) := by
  have hk := kcells_new (w.alloc (.cells #[.float .f64 0, .float .f64 0, .float .f64 4616189618054758400, .float .f64 0, .float .f64 4616189618054758400, .float .f64 4616189618054758400, .float .f64 0, .float .f64 4616189618054758400, .float .f64 4607182418800017408, .float .f64 4611686018427387904, .float .f64 4621256167635550208, .float .f64 13844628204490326016] 52)) [(0, 1, 4), (1, 2, 4), (2, 3, 4), (0, 4, 3), (2, 0, 5)] 45
  rw [show (w.alloc (.cells #[.float .f64 0, .float .f64 0, .float .f64 4616189618054758400, .float .f64 0, .float .f64 4616189618054758400, .float .f64 4616189618054758400, .float .f64 0, .float .f64 4616189618054758400, .float .f64 4607182418800017408, .float .f64 4611686018427387904, .float .f64 4621256167635550208, .float .f64 13844628204490326016] 52)).heap.size = w.heap.size + 1 from by simp] at hk
  refine (of_ok xwP (some ⟨w.heap.size, 0, none⟩) 6 [(0, 1, 4), (1, 2, 4), (2, 3, 4), (0, 4, 3), (2, 0, 5)] (some ⟨w.heap.size + 1, 0, none⟩) 5 xw_64 xw_all (by rw [xwP_len]; omega) (by decide) xw_allOk ((w.alloc (.cells #[.float .f64 0, .float .f64 0, .float .f64 4616189618054758400, .float .f64 0, .float .f64 4616189618054758400, .float .f64 4616189618054758400, .float .f64 0, .float .f64 4616189618054758400, .float .f64 4607182418800017408, .float .f64 4611686018427387904, .float .f64 4621256167635550208, .float .f64 13844628204490326016] 52)).alloc (.cells #[.int .i64 0, .int .i64 1, .int .i64 4, .int .i64 1, .int .i64 2, .int .i64 4, .int .i64 2, .int .i64 3, .int .i64 4, .int .i64 0, .int .i64 4, .int .i64 3, .int .i64 2, .int .i64 0, .int .i64 5] 45)) ((xw_pc w).alloc _) hk).mono ?_
  rintro r w' ⟨mb, F, rfl, hm⟩
  exact ⟨mb, F, rfl, (hm.same xw_fold).up (((Below.refl _ w).alloc (Nat.le_refl _) _).alloc (by simp) _)⟩

theorem xo_allOk : allOk (emptyM xoP) [(0, 1, 3), (1, 2, 3), (0, 3, 2)] := allOk_of _ _ xo_ok
theorem xo_fold : foldM (emptyM xoP) [(0, 1, 3), (1, 2, 3), (0, 3, 2)] = xoA := by unfold xoA xoT; rfl
theorem xo_pc (w : World) : PCells (w.alloc (.cells #[.float .f64 0, .float .f64 0, .float .f64 4616189618054758400, .float .f64 0, .float .f64 0, .float .f64 4616189618054758400, .float .f64 4607182418800017408, .float .f64 4607182418800017408] 52)) (some ⟨w.heap.size, 0, none⟩) xoP := by
  intro _
  refine ⟨_, 0, rfl, by simp, fun i hi => ?_⟩
  have : i = 0 ∨ i = 1 ∨ i = 2 ∨ i = 3 := by simp [xoP] at hi; omega
  rw [World.cell?_alloc_at _ _ _ _ rfl, World.cell?_alloc_at _ _ _ _ rfl]
  rcases this with rfl | rfl | rfl | rfl <;> exact ⟨rfl, rfl⟩
theorem of_xo (w : World) :
    Calls Tryz.prog 23 #[.slice (some ⟨w.heap.size, 0, none⟩) 4 4, .slice (some ⟨w.heap.size + 1, 0, none⟩) 3 3] ((w.alloc (.cells #[.float .f64 0, .float .f64 0, .float .f64 4616189618054758400, .float .f64 0, .float .f64 0, .float .f64 4616189618054758400, .float .f64 4607182418800017408, .float .f64 4607182418800017408] 52)).alloc (.cells #[.int .i64 0, .int .i64 1, .int .i64 3, .int .i64 1, .int .i64 2, .int .i64 3, .int .i64 0, .int .i64 3, .int .i64 2] 45)) fun r w' => ∃ mb F, r = .returned (.tuple #[.pointer (some ⟨mb, 0, none⟩), .int .i64 0]) ∧ Hid (MB w w' mb 9 xoA F) := by
  have hk := kcells_new (w.alloc (.cells #[.float .f64 0, .float .f64 0, .float .f64 4616189618054758400, .float .f64 0, .float .f64 0, .float .f64 4616189618054758400, .float .f64 4607182418800017408, .float .f64 4607182418800017408] 52)) [(0, 1, 3), (1, 2, 3), (0, 3, 2)] 45
  rw [show (w.alloc (.cells #[.float .f64 0, .float .f64 0, .float .f64 4616189618054758400, .float .f64 0, .float .f64 0, .float .f64 4616189618054758400, .float .f64 4607182418800017408, .float .f64 4607182418800017408] 52)).heap.size = w.heap.size + 1 from by simp] at hk
  refine (of_ok xoP (some ⟨w.heap.size, 0, none⟩) 4 [(0, 1, 3), (1, 2, 3), (0, 3, 2)] (some ⟨w.heap.size + 1, 0, none⟩) 3 xo_64 xo_all (by rw [xoP_len]; omega) (by decide) xo_allOk ((w.alloc (.cells #[.float .f64 0, .float .f64 0, .float .f64 4616189618054758400, .float .f64 0, .float .f64 0, .float .f64 4616189618054758400, .float .f64 4607182418800017408, .float .f64 4607182418800017408] 52)).alloc (.cells #[.int .i64 0, .int .i64 1, .int .i64 3, .int .i64 1, .int .i64 2, .int .i64 3, .int .i64 0, .int .i64 3, .int .i64 2] 45)) ((xo_pc w).alloc _) hk).mono ?_
  rintro r w' ⟨mb, F, rfl, hm⟩
  exact ⟨mb, F, rfl, (hm.same xo_fold).up (((Below.refl _ w).alloc (Nat.le_refl _) _).alloc (by simp) _)⟩

theorem ex_small : exA.P.length ≤ 1048576 := by rw [exA_P, exP_len]; omega
theorem exB_small : exB.P.length ≤ 1048576 := by rw [exB_P, exP_len]; omega
theorem exX_small : exX.P.length ≤ 1048576 := by rw [exX_P, exP_len]; omega
theorem xw_small : xwA.P.length ≤ 1048576 := by rw [xwA_P, xwP_len]; omega
theorem xwB_small : xwB.P.length ≤ 1048576 := by rw [xwB_P, xwP_len]; omega
theorem xo_small : xoA.P.length ≤ 1048576 := by rw [xoA_P, xoP_len]; omega
theorem xoB_small : xoB.P.length ≤ 1048576 := by rw [xoB_P, xoP_len]; omega
theorem exA_64 : ∀ p, p ∈ exA.P → pt64 p := by rw [exA_P]; exact ex_64
theorem exX_64 : ∀ p, p ∈ exX.P → pt64 p := by rw [exX_P]; exact ex_64
theorem xwA_64 : ∀ p, p ∈ xwA.P → pt64 p := by rw [xwA_P]; exact xw_64
theorem xoA_64 : ∀ p, p ∈ xoA.P → pt64 p := by rw [xoA_P]; exact xo_64
theorem small4 : i64ok 4 := by unfold i64ok; omega
theorem ex_has0 : hasM exA 0 = true := by decide +kernel
theorem ex_has9 : hasM exA 9 = false := by decide +kernel
theorem ex_hasm : hasM exA (-1) = false := by decide +kernel
theorem exX_has4 : hasM exX 4 = true := by decide +kernel
theorem exB_has4 : hasM exB 4 = true := by decide +kernel
theorem xw_has4 : hasM xwA 4 = true := by decide +kernel
theorem xo_has3 : hasM xoA 3 = true := by decide +kernel
theorem ex_earOk : ∀ j, j < exR.length - 3 → EarOk exA (esRun exA ⟨exR, []⟩ j).R := by
  intro j hj
  obtain rfl : j = 0 := by have : exR.length = 4 := rfl; omega
  show earAt exA exR + 2 < 4
  rw [ex_earAt]; decide
theorem xw_earOk : ∀ j, j < exR.length - 3 → EarOk xwA (esRun xwA ⟨exR, []⟩ j).R := by
  intro j hj
  obtain rfl : j = 0 := by have : exR.length = 4 := rfl; omega
  show earAt xwA exR + 2 < 4
  rw [xw_earAt]; decide
theorem xo_earOk : ∀ j, j < xoR.length - 3 → EarOk xoA (esRun xoA ⟨xoR, []⟩ j).R := by
  intro j hj
  have : xoR.length = 3 := rfl
  omega
theorem xo_inOrd : ∀ e, e ∈ edges3 [((0, 1, 2) : Tri3)] → InOrd xoB e := by
  have e3 : edges3 [((0, 1, 2) : Tri3)] = [(0, 1), (1, 2), (2, 0)] := rfl
  rw [e3]
  intro e he
  exact ⟨sm_of (l := [(0, 1), (1, 2), (2, 0)]) (by decide) e he, .inl (quiet_of xo_quiet e he)⟩
theorem exA_cnt : exX.cnt = 4 := by decide +kernel

section
variable {w0 w : World} {mb n : Nat} {F : Nat → Prop}
theorem c_ring4 (h : Hid (MB w0 w mb n exA F)) (hn : n ≤ 1000) :
    Calls Tryz.prog 62 #[.pointer (some ⟨mb, 0, none⟩), .int .i64 4] w fun r w' => ∃ g cap, r = .returned (.slice (some ⟨g, 0, none⟩) 4 cap) ∧ (w'.cell? ⟨g, 0, none⟩ = some (.int .i64 0) ∧ w'.cell? ⟨g, 1, none⟩ = some (.int .i64 1) ∧ w'.cell? ⟨g, 3, none⟩ = some (.int .i64 3)) ∧ Hid (MB w0 w' mb n exA F) := by
  refine (ring_some h.out.at_ exA_sound ex_small (by omega) small4 (by rw [ex_sp4]; decide) ex_ring4 (by decide)).mono ?_
  rintro r w' ⟨g, cap, rfl, _, hn, _, _, hb⟩
  obtain ⟨g', e, _, hc⟩ := hn (by decide)
  cases e
  exact ⟨g, cap, rfl, ⟨hc 0 (by decide), hc 1 (by decide), hc 3 (by decide)⟩, h.out.below hb⟩
theorem c_ring0 (h : Hid (MB w0 w mb n exA F)) (hn : n ≤ 1000) :
    Calls Tryz.prog 62 #[.pointer (some ⟨mb, 0, none⟩), .int .i64 0] w fun r w' => r = .returned (.slice none 0 0) ∧ Below w.heap.size w w' ∧ Hid (MB w0 w' mb n exA F) := by
  refine (ring_none h.out.at_ exA_sound ex_small (by omega) small0 (by rw [ex_sp0]; decide) ex_ring0).mono ?_
  rintro r w' ⟨rfl, hb⟩
  exact ⟨rfl, hb, h.out.below hb⟩
theorem c_take4 (h : Hid (MB w0 w mb n exA F)) (hn : n ≤ 1000) :
    Calls Tryz.prog 60 #[.pointer (some ⟨mb, 0, none⟩), .int .i64 4] w fun r w' => r = .returned (.int .i64 0) ∧ ∃ G, Hid (MB w0 w' mb (n + 18) exB G) := by
  refine (rpoint_ok h.out exA_64 exA_sound ex_small (by omega) small4 ex_has4 (k := 3) (by rw [ex_sp4]; rfl) (by omega) ex_ring4 (by decide) (by decide) ex_nofix ex_earOk ex_ears (by rw [exK]) (allOk_of _ _ exE_ok) (by rw [exB]) ex_inOrd).mono ?_
  rintro r w' ⟨rfl, G, hm, _, _⟩
  exact ⟨rfl, G, hm⟩
theorem c_count (h : Hid (MB w0 w mb n exB F)) : Calls Tryz.prog 61 #[.pointer (some ⟨mb, 0, none⟩)] w fun r w' => r = .returned (.int .i64 2) ∧ w' = w := by
  have := count_mb h.out
  rwa [exB_cnt] at this
theorem c_border (h : Hid (MB w0 w mb n exB F)) : Calls Tryz.prog 46 #[.pointer (some ⟨mb, 0, none⟩)] w fun r w' => ∃ ad cap, r = .returned (.slice ad 4 cap) ∧ Hid (MB w0 w' mb n exB F) := by
  refine (border_mb h.out exB_sound exB_small).mono ?_
  rintro r w' ⟨ad, cap, rfl, _, _, hm, _⟩
  rw [exB_bord]
  exact ⟨ad, cap, rfl, hm⟩
theorem c_no0 (h : Hid (MB w0 w mb n exA F)) (hn : n ≤ 1000) :
    Calls Tryz.prog 60 #[.pointer (some ⟨mb, 0, none⟩), .int .i64 0] w fun r w' => r = .returned (.int .i64 14) ∧ Hid (MB w0 w' mb n exA F) :=
  (rpoint_noring h.out.at_ exA_sound ex_small (by omega) small0 ex_has0 (k := 2) (by rw [ex_sp0]; rfl) (by omega) ex_ring0).mono fun _ _ h1 => ⟨h1.1, h.out.below h1.2⟩
theorem c_no9 (h : Hid (MB w0 w mb n exA F)) : Calls Tryz.prog 60 #[.pointer (some ⟨mb, 0, none⟩), .int .i64 9] w fun r w' => r = .returned (.int .i64 11) ∧ Hid (MB w0 w' mb n exA F) :=
  (rpoint_index h.out.at_ ex_has9).mono fun _ _ h1 => ⟨h1.1, h.out.below h1.2⟩
theorem c_nom (h : Hid (MB w0 w mb n exA F)) : Calls Tryz.prog 60 #[.pointer (some ⟨mb, 0, none⟩), .int .i64 (-1)] w fun r w' => r = .returned (.int .i64 11) ∧ Hid (MB w0 w' mb n exA F) :=
  (rpoint_index h.out.at_ ex_hasm).mono fun _ _ h1 => ⟨h1.1, h.out.below h1.2⟩
theorem c_fix14 (h : Hid (MB w0 w mb n exA F)) (hn : n ≤ 1000) :
    Calls Tryz.prog 33 #[.pointer (some ⟨mb, 0, none⟩), .int .i64 1, .int .i64 4, .int .i64 3] w fun r w' => r = .returned (.int .i64 0) ∧ Hid (MB w0 w' mb (n + 1) exX F) := by
  refine (fix_ok (v := 3) h.out (by omega) small1 small4 ex_has1 ex_has4 (by decide)).mono ?_
  rintro r w' ⟨rfl, hm⟩
  exact ⟨rfl, hm.same (by rw [exX])⟩
theorem c_fixed4 (h : Hid (MB w0 w mb n exX F)) (hn : n ≤ 1000) :
    Calls Tryz.prog 60 #[.pointer (some ⟨mb, 0, none⟩), .int .i64 4] w fun r w' => r = .returned (.int .i64 14) ∧ Hid (MB w0 w' mb n exX F) :=
  (rpoint_fixed h.out.at_ exX_sound exX_small (by omega) small4 exX_has4 (k := 3) (by unfold exX; rw [spokes_fx, ex_sp4]; rfl) (by omega) exX_ring4 (by decide) (by decide) exX_fix).mono fun _ _ h1 => ⟨h1.1, h.out.below h1.2⟩
theorem c_countX (h : Hid (MB w0 w mb n exX F)) : Calls Tryz.prog 61 #[.pointer (some ⟨mb, 0, none⟩)] w fun r w' => r = .returned (.int .i64 4) ∧ w' = w := by
  have := count_mb h.out
  rwa [exA_cnt] at this
theorem c_loose (h : Hid (MB w0 w mb n exX F)) :
    Calls Tryz.prog 35 #[.pointer (some ⟨mb, 0, none⟩), .int .i64 4, .int .i64 1] w fun r w' => r = .returned (.bool true) ∧ Hid (MB w0 w' mb (n + 1) exA F) := by
  refine (loose_ok h.out small4 small1 ex_fx14).mono ?_
  rintro r w' ⟨rfl, hm⟩
  exact ⟨rfl, hm.same ex_loose⟩
theorem c_gone (h : Hid (MB w0 w mb n exB F)) (hn : n ≤ 1000) :
    Calls Tryz.prog 60 #[.pointer (some ⟨mb, 0, none⟩), .int .i64 4] w fun r w' => r = .returned (.int .i64 5) ∧ Hid (MB w0 w' mb n exB F) :=
  (rpoint_none h.out.at_ exB_sound exB_small (by omega) small4 exB_has4 (by rw [exB_sp4]; rfl)).mono fun _ _ h1 => ⟨h1.1, h.out.below h1.2⟩
theorem c_len (h : Hid (MB w0 w mb n exB F)) : Calls Tryz.prog 47 #[.pointer (some ⟨mb, 0, none⟩)] w fun r w' => r = .returned (.int .i64 5) ∧ w' = w := by
  have := len_walk h.out.at_
  rw [exB_P, exP_len] at this
  exact this
theorem c_take3 (h : Hid (MB w0 w mb n xoA F)) (hn : n ≤ 1000) :
    Calls Tryz.prog 60 #[.pointer (some ⟨mb, 0, none⟩), .int .i64 3] w fun r w' => r = .returned (.int .i64 0) ∧ ∃ G, Hid (MB w0 w' mb (n + 12) xoB G) := by
  refine (rpoint_ok h.out xoA_64 xoA_sound xo_small (by omega) small3 xo_has3 (k := 2) (by rw [xo_sp3]; rfl) (by omega) xo_ring3 (by decide) (by decide) xo_nofix xo_earOk xo_ears (by rw [xoK]) (allOk_of _ _ xoE_ok) (by rw [xoB]) xo_inOrd).mono ?_
  rintro r w' ⟨rfl, G, hm, _, _⟩
  exact ⟨rfl, G, hm⟩

/-- a mesh, and its triangles told -/
structure Was (w0 w : World) (mb n : Nat) (M : MeshM) (F : Nat → Prop) (T : List Tri3) (ad : Option Addr) : Prop where
  m : MB w0 w mb n M F
  k : KCells encT w ad T
theorem c_was (h : Hid (MB w0 w mb n xwA F)) {T : List Tri3} (hT : trisL xwA.ap xwA.P.length = T) :
    Calls Tryz.prog 18 #[.pointer (some ⟨mb, 0, none⟩)] w fun r w' => ∃ ad cap, r = .returned (.slice ad T.length cap) ∧ Hid (Was w0 w' mb n xwA F T ad ∧ ∀ g, ad = some g → ¬F g.block) := by
  have := tris_mb h.out xwA_sound xw_small
  rw [hT] at this
  refine this.mono ?_
  rintro r w' ⟨ad, cap, rfl, hk, hg, hm, _⟩
  exact ⟨ad, cap, rfl, ⟨hm, hk⟩, fun g e hf => by have := h.out.at_.flt _ hf; have := hg g e; omega⟩
theorem c_refuse {T : List Tri3} {ad : Option Addr} (h : Hid (Was w0 w mb n xwA F T ad ∧ ∀ g, ad = some g → ¬F g.block)) (hn : n ≤ 1000) :
    Calls Tryz.prog 60 #[.pointer (some ⟨mb, 0, none⟩), .int .i64 4] w fun r w' => r = .returned (.int .i64 14) ∧ ∃ G, Hid (Was w0 w' mb (n + 27) xwB G T ad) := by
  refine (rpoint_refused h.out.1.m xwA_64 xwA_sound xw_small (by omega) small4 xw_has4 (k := 3) (by rw [xw_sp4]; rfl) (by omega) xw_ring4 (by decide) (by decide) xw_nofix xw_earOk xw_ears (MK := xwK) (MZ := xwB) (by rw [xwK]) (ta := 0) (tb := 1) (tc := 2) (E2 := [(0, 2, 3)]) rfl xw_bad (by rw [xwB])).mono ?_
  rintro r w' ⟨rfl, G, hm, hs, _⟩
  exact ⟨rfl, G, hm, h.out.1.k.stay hs h.out.2⟩
theorem c_trisB {T : List Tri3} {ad : Option Addr} (h : Hid (Was w0 w mb n xwB F T ad)) (hT : trisL xwA.ap xwA.P.length = T) :
    Calls Tryz.prog 18 #[.pointer (some ⟨mb, 0, none⟩)] w fun r w' => ∃ ad2 cap, r = .returned (.slice ad2 T.length cap) ∧ Hid (Was w0 w' mb n xwB F T ad ∧ KCells encT w' ad2 T) := by
  have := tris_mb h.out.m xwB_sound xwB_small
  rw [xw_tris, hT] at this
  refine this.mono ?_
  rintro r w' ⟨ad2, cap, rfl, hk, _, hm, hb⟩
  exact ⟨ad2, cap, rfl, ⟨hm, h.out.k.below hb⟩, hk⟩
theorem c_sameW {T : List Tri3} {ad ad2 : Option Addr} {ca cb : Nat} (h : Hid (Was w0 w mb n xwB F T ad ∧ KCells encT w ad2 T)) (hl : T.length ≤ 1000) :
    Calls Tryz.prog 21 #[.slice ad2 T.length ca, .slice ad T.length cb] w fun r w' => r = .returned (.bool true) ∧ Hid (MB w0 w' mb n xwB F) :=
  (sameTris_walk T ad2 ad ca cb w h.out.2 h.out.1.k (by omega)).mono fun _ _ h1 => ⟨h1.1, h.out.1.m.below h1.2⟩
theorem c_trisO (h : Hid (MB w0 w mb n xoB F)) :
    Calls Tryz.prog 18 #[.pointer (some ⟨mb, 0, none⟩)] w fun r w' => ∃ ad cap, r = .returned (.slice ad 1 cap) ∧ Hid (MB w0 w' mb n xoB F ∧ KCells encT w' ad [(0, 1, 2)]) := by
  have := tris_mb h.out xoB_sound xoB_small
  rw [xo_tris] at this
  refine this.mono ?_
  rintro r w' ⟨ad, cap, rfl, hk, _, hm, _⟩
  exact ⟨ad, cap, rfl, hm, hk⟩
theorem c_sameO {ad : Option Addr} {cap : Nat} (h : Hid (MB w0 w mb n xoB F ∧ KCells encT w ad [(0, 1, 2)])) :
    Calls Tryz.prog 21 #[.slice ad 1 cap, .slice (some ⟨w.heap.size, 0, none⟩) 1 1] (w.alloc (.cells #[.int .i64 0, .int .i64 1, .int .i64 2] 45)) fun r w' => r = .returned (.bool true) ∧ Hid (MB w0 w' mb n xoB F) :=
  (sameTris_walk [(0, 1, 2)] ad (some ⟨w.heap.size, 0, none⟩) cap 1 _ (h.out.2.below ((Below.refl _ w).alloc (Nat.le_refl _) _)) (kcells_new w [(0, 1, 2)] _) (by decide)).mono fun _ _ h1 => ⟨h1.1, (h.out.1.below ((Below.refl _ w).alloc (Nat.le_refl _) _)).below h1.2⟩
end

/-! ### nobody's mesh -/
set_option maxRecDepth 100000 in
set_option maxHeartbeats 1000000 in
theorem ring_nil (a : Int) (w : World) :
    Calls Tryz.prog 62 #[.pointer none, .int .i64 a] w fun r w' => r = .returned (.slice none 0 0) ∧ w' = w := by
  have HS := Lib.hid (nil_Spokes a w)
  go_enter Tryz.func62, Tryz.ntmps62
  go_wp2_with (go_at_call 84; with_reducible refine HS.out.mono ?_; rintro r w1 ⟨rfl, rfl⟩)
  go_ret
  exact ⟨rfl, rfl⟩

end Go.Proofs.YtdoaniccefdkaaaGreatDoor

/- trivetlaw19.works, RemoveNames: the walks. -/
namespace Go.Proofs.YtdoaniccefdkaaaGreatDoor
open Go.RowKit Tvf Go.Maps Go.WideMaps

set_option maxRecDepth 100000 in
set_option maxHeartbeats 2000000 in
theorem example_walk (w : World) : Calls Tryz.prog 59 #[] w fun r w' => ∃ mb F, r = .returned (.pointer (some ⟨mb, 0, none⟩)) ∧ Hid (MB w w' mb 12 exA F) := by
  go_enter Tryz.func59, Tryz.ntmps59
  go_wp2_with (first
    | (go_at_call 23; with_reducible refine (of_ex w).mono ?_; rintro r w1 ⟨mA, FA, rfl, m1⟩))
  go_ret
  exact ⟨mA, FA, rfl, m1⟩

set_option maxRecDepth 100000 in
set_option maxHeartbeats 8000000 in
theorem rworks_walk (w : World) : Calls Tryz.prog 58 #[] w fun r w' => r = .returned (.bool true) ∧ Below w.heap.size w w' := by
  have HX := Lib.hid (example_walk w)
  go_enter Tryz.func58, Tryz.ntmps58
  go_wp2_with (first
    | (go_at_call 59; with_reducible refine HX.out.mono ?_; rintro r w1 ⟨mA, FA, rfl, m1⟩)
    | (go_at_call 62; with_reducible refine (c_ring4 m1 (by decide)).mono ?_; rintro r w2 ⟨g, cap, rfl, ⟨q0, q1, q3⟩, m2⟩; clear m1)
    | (go_at_call 62; with_reducible refine (c_ring0 m2 (by decide)).mono ?_; rintro r w3 ⟨rfl, _, m3⟩; clear m2)
    | (go_at_call 60; with_reducible refine (c_take4 m3 (by decide)).mono ?_; rintro r w4 ⟨rfl, G4, m4⟩; clear m3)
    | (go_at_call 61; with_reducible refine (c_count m4).mono ?_; rintro r w5 ⟨rfl, rfl⟩)
    | (go_at_call 46; with_reducible refine (c_border m4).mono ?_; rintro r w6 ⟨ad6, cap6, rfl, m6⟩; clear m4))
  go_ret
  exact ⟨rfl, m6.out.keep⟩

set_option maxRecDepth 100000 in
set_option maxHeartbeats 8000000 in
theorem rnames_walk (w : World) : Calls Tryz.prog 14 #[] w fun r w' => r = .returned (.bool true) ∧ Below w.heap.size w w' := by
  have HW := Lib.hid (rworks_walk w)
  obtain ⟨T, hT⟩ : ∃ T, trisL xwA.ap xwA.P.length = T := ⟨_, rfl⟩
  have hTl : T.length ≤ 1000 := by rw [← hT]; decide +kernel
  go_enter Tryz.func14, Tryz.ntmps14
  go_wp2_with (first
    | (go_at_call 58; with_reducible refine HW.out.mono ?_; rintro r w1 ⟨rfl, hb1⟩)
    | (go_at_call 59; with_reducible refine (example_walk w1).mono ?_; rintro r w2 ⟨mA, FA, rfl, m2⟩)
    | (go_at_call 60; with_reducible refine (c_no0 m2 (by decide)).mono ?_; rintro r w3 ⟨rfl, m3⟩; clear m2)
    | (go_at_call 60; with_reducible refine (c_no9 m3).mono ?_; rintro r w4 ⟨rfl, m4⟩; clear m3)
    | (go_at_call 60; with_reducible refine (c_nom m4).mono ?_; rintro r w5 ⟨rfl, m5⟩; clear m4)
    | (go_at_call 33; with_reducible refine (c_fix14 m5 (by decide)).mono ?_; rintro r w6 ⟨rfl, m6⟩; clear m5)
    | (go_at_call 60; with_reducible refine (c_fixed4 m6 (by decide)).mono ?_; rintro r w7 ⟨rfl, m7⟩; clear m6)
    | (go_at_call 61; with_reducible refine (c_countX m7).mono ?_; rintro r w8 ⟨rfl, rfl⟩)
    | (go_at_call 35; with_reducible refine (c_loose m7).mono ?_; rintro r w9 ⟨rfl, m9⟩; clear m7)
    | (go_at_call 60; with_reducible refine (c_take4 m9 (by decide)).mono ?_; rintro r w10 ⟨rfl, G10, m10⟩; clear m9)
    | (go_at_call 60; with_reducible refine (c_gone m10 (by decide)).mono ?_; rintro r w11 ⟨rfl, m11⟩; clear m10)
    | (go_at_call 47; with_reducible refine (c_len m11).mono ?_; rintro r w12 ⟨rfl, rfl⟩)
    | (go_at_call 23; with_reducible refine (of_xw _).mono ?_; rintro r w13 ⟨mW, FW, rfl, m13⟩; have b12 := Lib.hid m11.out.keep; clear m11)
    | (go_at_call 18; with_reducible refine (c_was m13 hT).mono ?_; rintro r w14 ⟨ad14, cap14, rfl, m14⟩; clear m13)
    | (go_at_call 60; with_reducible refine (c_refuse m14 (by decide)).mono ?_; rintro r w15 ⟨rfl, G15, m15⟩; clear m14)
    | (go_at_call 18; with_reducible refine (c_trisB m15 hT).mono ?_; rintro r w16 ⟨ad16, cap16, rfl, m16⟩; clear m15)
    | (go_at_call 21; refine (c_sameW m16 hTl).mono ?_; rintro r w17 ⟨rfl, m17⟩; clear m16)
    | (go_at_call 23; with_reducible refine (of_xo _).mono ?_; rintro r w18 ⟨mO, FO, rfl, m18⟩)
    | (go_at_call 60; with_reducible refine (rpoint_nil _ _).mono ?_; rintro r w19 ⟨rfl, hb19⟩; have m19 := Lib.hid (m18.out.below hb19); clear m18 hb19)
    | (go_at_call 62; with_reducible refine (ring_nil _ _).mono ?_; rintro r w20 ⟨rfl, rfl⟩)
    | (go_at_call 60; with_reducible refine (c_take3 m19 (by decide)).mono ?_; rintro r w21 ⟨rfl, G21, m21⟩; clear m19)
    | (go_at_call 18; with_reducible refine (c_trisO m21).mono ?_; rintro r w22 ⟨ad22, cap22, rfl, m22⟩; clear m21)
    | (go_at_call 21; refine (c_sameO m22).mono ?_; rintro r w23 ⟨rfl, m23⟩; clear m22))
  go_ret
  have h17 := b12.out.trans (m17.out.keep.mono b12.out.size)
  have h23 := h17.trans (m23.out.keep.mono h17.size)
  exact ⟨rfl, hb1.trans (h23.mono hb1.size)⟩

end Go.Proofs.YtdoaniccefdkaaaGreatDoor
