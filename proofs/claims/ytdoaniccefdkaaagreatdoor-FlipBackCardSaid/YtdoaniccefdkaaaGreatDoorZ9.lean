/- Part of the proof. No conditions. -/
import Derived.Test.YtdoaniccefdkaaaGreatDoorZ8
import Derived.Deep.RegionHeld3
import Derived.StillTailTactics

set_option linter.all false
/- mesh.New. -/
namespace Go.Proofs.YtdoaniccefdkaaaGreatDoor
open Go.RowKit Go.Maps Go.WideMaps

theorem ownsRow_shape {w : World} {base e size n : Nat} {v : Value} {xs : List Value} (h : w.ownsRow base e size v n xs) : ∃ ad cap, v = .slice ad n cap := by
  rcases h.2 with ⟨h1, h2⟩ | ⟨g, cap, cur, h1, _⟩
  · exact ⟨none, 0, by rw [h2]; exact h1⟩
  · exact ⟨_, _, h1⟩

theorem ownsRow_down {w : World} {base base' e size n : Nat} {v : Value} {xs : List Value} (hb : base' ≤ base) (h : w.ownsRow base e size v n xs) : w.ownsRow base' e size v n xs := by
  refine ⟨h.1, ?_⟩
  rcases h.2 with h1 | ⟨g, cap, cur, h1, h2, h3⟩
  · exact .inl h1
  · exact .inr ⟨g, cap, cur, h1, Nat.le_trans hb h2, h3⟩

def emptyM (l : List Pt) : MeshM := ⟨l, fun _ _ => none, fun _ => [], 0, fun _ _ => none⟩

set_option maxRecDepth 100000 in
set_option maxHeartbeats 1000000 in
theorem new_bad (l : List Pt) (ad : Option Addr) (cap : Nat) (h64 : ∀ p, p ∈ l → pt64 p) (hk : allCode l ≠ 0) (w : World) (hc : PCells w ad l) :
    Calls Tryz.prog 27 #[.slice ad l.length cap] w fun r w' => r = .returned (.tuple #[.pointer none, .int .i64 (allCode l)]) ∧ Below w.heap.size w w' := by
  have HA := Lib.hid (admitAll_walk l ad cap h64 w hc)
  clear h64 hc
  generalize allCode l = e at *
  go_enter Tryz.func27, Tryz.ntmps27
  go_wp2_with (go_at_call 87; refine HA.out.mono ?_; rintro r w1 ⟨i, rfl, hb1⟩)
  go_ret2
  exact ⟨rfl, hb1⟩

theorem edgeV_none : edgeV (fun _ _ => none) = fun _ => none := by
  funext v
  apply Classical.byContradiction; intro h
  obtain ⟨x, rfl⟩ := edgeV_ne h
  exact h rfl
theorem intV_none : intV (fun _ => none) = fun _ => none := by
  funext v
  apply Classical.byContradiction; intro h
  obtain ⟨x, rfl⟩ := intV_ne h
  exact h rfl

theorem new_parts (l : List Pt) (w w2 : World) (v' : Value) (hs : w.heap.size ≤ w2.heap.size) (h : w2.ownsRow w.heap.size 52 2 v' l.length (cellsP l)) :
    MeshAt ((((w2.alloc (.map #[] 0)).alloc (.map #[] 0)).alloc (.map #[] 0)).alloc (.cells #[v', .map (some w2.heap.size), .map (some (w2.heap.size + 1)), .int .i64 0, .map (some (w2.heap.size + 1 + 1))] 116)) (w2.heap.size + 1 + 1 + 1) 0 (emptyM l) (fun i => w.heap.size ≤ i ∧ i < w2.heap.size + 1 + 1 + 1 + 1) := by
  have e1 : (w2.alloc (.map #[] 0)).heap.size = w2.heap.size + 1 := by simp
  have e2 : ((w2.alloc (.map #[] 0)).alloc (.map #[] 0)).heap.size = w2.heap.size + 1 + 1 := by simp
  have e3 : (((w2.alloc (.map #[] 0)).alloc (.map #[] 0)).alloc (.map #[] 0)).heap.size = w2.heap.size + 1 + 1 + 1 := by simp
  have hcell : ∀ i, ((((w2.alloc (.map #[] 0)).alloc (.map #[] 0)).alloc (.map #[] 0)).alloc (.cells #[v', .map (some w2.heap.size), .map (some (w2.heap.size + 1)), .int .i64 0, .map (some (w2.heap.size + 1 + 1))] 116)).cell? ⟨w2.heap.size + 1 + 1 + 1, i, none⟩ = #[v', .map (some w2.heap.size), .map (some (w2.heap.size + 1)), .int .i64 0, .map (some (w2.heap.size + 1 + 1))][i]? := by
    intro i; rw [World.cell?_alloc_at _ _ _ _ e3.symm]
  have hown := ((h.alloc (.map #[] 0)).alloc (.map #[] 0)).alloc (.map #[] 0) |>.alloc (.cells #[v', .map (some w2.heap.size), .map (some (w2.heap.size + 1)), .int .i64 0, .map (some (w2.heap.size + 1 + 1))] 116)
  have hlt := h.lt
  refine ⟨w2.heap.size, w2.heap.size + 1, w2.heap.size + 1 + 1, v', fun _ => none, ?_⟩
  refine ⟨hcell 0, hcell 1, hcell 2, hcell 3, hcell 4, ?_, ⟨hown.1, ?_⟩, ?_, ?_, ?_, ⟨fun _ _ => rfl, fun _ _ h => (nomatch h), fun _ _ _ _ _ h => (nomatch h), fun _ _ _ h => (nomatch h)⟩, by omega, by omega, by omega, ?_, ?_, ?_, ?_, ?_, ?_, ?_, fun _ => Nat.le_refl _, by simp [emptyM]⟩
  · intro i
    unfold World.frozen?
    have := heap_alloc_new (((w2.alloc (.map #[] 0)).alloc (.map #[] 0)).alloc (.map #[] 0)) (.cells #[v', .map (some w2.heap.size), .map (some (w2.heap.size + 1)), .int .i64 0, .map (some (w2.heap.size + 1 + 1))] 116)
    rw [e3] at this
    rw [this]; simp
  · rcases hown.2 with h1 | ⟨g, cap, cur, h1, h2, h3⟩
    · exact .inl h1
    · exact .inr ⟨g, cap, cur, h1, Nat.zero_le _, h3⟩
  · rw [show edgeV (emptyM l).ap = fun _ => none from edgeV_none]
    exact (((FMap.made _ _ _).kept (World.grownBy_alloc _ _ none) (by simp)).kept (World.grownBy_alloc _ _ none) (by simp)).kept (World.grownBy_alloc _ _ none) (by simp)
  · rw [intV_none]
    have := ((FMap.made Tryz.prog (w2.alloc (.map #[] 0)) 3).kept (World.grownBy_alloc _ (.map #[] 0) none) (by simp)).kept (World.grownBy_alloc _ (.cells #[v', .map (some w2.heap.size), .map (some (w2.heap.size + 1)), .int .i64 0, .map (some (w2.heap.size + 1 + 1))] 116) none) (by simp)
    rw [e1] at this; exact this
  · rw [show edgeV (emptyM l).fx = fun _ => none from edgeV_none]
    have := (FMap.made Tryz.prog ((w2.alloc (.map #[] 0)).alloc (.map #[] 0)) 117).kept (World.grownBy_alloc _ (.cells #[v', .map (some w2.heap.size), .map (some (w2.heap.size + 1)), .int .i64 0, .map (some (w2.heap.size + 1 + 1))] 116) none) (by simp)
    rw [e2] at this; exact this
  · intro e
    have := (hlt _ e).2; omega
  · exact ⟨by omega, by omega⟩
  · exact ⟨by omega, by omega⟩
  · exact ⟨by omega, by omega⟩
  · exact ⟨by omega, by omega⟩
  · exact fun g hg => ⟨(hlt g hg).1, by have := (hlt g hg).2; omega⟩
  · intro g hg; simp; omega

set_option maxRecDepth 100000 in
set_option maxHeartbeats 1000000 in
theorem new_ok (l : List Pt) (ad : Option Addr) (cap : Nat) (h64 : ∀ p, p ∈ l → pt64 p) (hk : allCode l = 0) (hl : l.length ≤ 1048576) (w : World) (hc : PCells w ad l) :
    Calls Tryz.prog 27 #[.slice ad l.length cap] w fun r w' => ∃ mb, r = .returned (.tuple #[.pointer (some ⟨mb, 0, none⟩), .int .i64 0]) ∧ MeshAt w' mb 0 (emptyM l) (fun i => w.heap.size ≤ i ∧ i < w'.heap.size) ∧ Below w.heap.size w w' := by
  have HA := Lib.hid (admitAll_walk l ad cap h64 w hc)
  rw [hk] at HA
  have HC := Lib.hid (fun w1 (hb : Below w.heap.size w w1) => clone_walk l ad cap hl w1 (hc.below hb))
  have HP := Lib.hid (new_parts l)
  clear h64 hc hk hl
  have hmm := @run_makeMap Tryz.prog
  go_enter Tryz.func27, Tryz.ntmps27
  go_wp2_with (first
    | (go_at_call 87; refine HA.out.mono ?_; rintro r w1 ⟨i, rfl, hb1⟩)
    | (go_at_call 88; refine (HC.out _ hb1).mono ?_; rintro r w2 ⟨v', rfl, hown2, hb2⟩; obtain ⟨ad2, cap2, rfl⟩ := ownsRow_shape hown2))
  go_ret2
  have s2 : w.heap.size ≤ w2.heap.size := Nat.le_trans hb1.size hb2.size
  refine ⟨_, rfl, ?_, ?_⟩
  · have := HP.out w w2 _ s2 (ownsRow_down hb1.size hown2)
    simpa using this
  · exact ((((hb1.trans (hb2.mono hb1.size)).alloc s2 _).alloc (by simp; omega) _).alloc (by simp; omega) _).alloc (by simp; omega) _

end Go.Proofs.YtdoaniccefdkaaaGreatDoor

/- The walks of orient.exactly and orient.Sign. -/
namespace Go.Proofs.YtdoaniccefdkaaaGreatDoor
open Go.RowKit Tvf

theorem below_cells6 {w1 w2 : World} {B : Nat} {a0 a1 b0 b1 c0 c1 : Value} (hb : Below w1.heap.size w1 w2) (hB : B + 3 ≤ w1.heap.size)
    (h : w1.cell? ⟨B, 0, none⟩ = some a0 ∧ w1.cell? ⟨B, 1, none⟩ = some a1 ∧ w1.cell? ⟨B + 1, 0, none⟩ = some b0 ∧ w1.cell? ⟨B + 1, 1, none⟩ = some b1 ∧ w1.cell? ⟨B + 1 + 1, 0, none⟩ = some c0 ∧ w1.cell? ⟨B + 1 + 1, 1, none⟩ = some c1) :
    w2.cell? ⟨B, 0, none⟩ = some a0 ∧ w2.cell? ⟨B, 1, none⟩ = some a1 ∧ w2.cell? ⟨B + 1, 0, none⟩ = some b0 ∧ w2.cell? ⟨B + 1, 1, none⟩ = some b1 ∧ w2.cell? ⟨B + 1 + 1, 0, none⟩ = some c0 ∧ w2.cell? ⟨B + 1 + 1, 1, none⟩ = some c1 := by
  obtain ⟨h1, h2, h3, h4, h5, h6⟩ := h
  refine ⟨?_, ?_, ?_, ?_, ?_, ?_⟩
  · rw [hb.cell (p := ⟨B, 0, none⟩) (by dsimp only; omega)]; exact h1
  · rw [hb.cell (p := ⟨B, 1, none⟩) (by dsimp only; omega)]; exact h2
  · rw [hb.cell (p := ⟨B + 1, 0, none⟩) (by dsimp only; omega)]; exact h3
  · rw [hb.cell (p := ⟨B + 1, 1, none⟩) (by dsimp only; omega)]; exact h4
  · rw [hb.cell (p := ⟨B + 1 + 1, 0, none⟩) (by dsimp only; omega)]; exact h5
  · rw [hb.cell (p := ⟨B + 1 + 1, 1, none⟩) (by dsimp only; omega)]; exact h6

theorem kept8 {w w1 w2 : World} {a0 a1 b0 b1 c0 c1 : Value} (hb : Below w1.heap.size w1 w2)
    (h : w1.cell? ⟨w.heap.size, 0, none⟩ = some a0 ∧ w1.cell? ⟨w.heap.size, 1, none⟩ = some a1 ∧ w1.cell? ⟨w.heap.size + 1, 0, none⟩ = some b0 ∧ w1.cell? ⟨w.heap.size + 1, 1, none⟩ = some b1 ∧ w1.cell? ⟨w.heap.size + 1 + 1, 0, none⟩ = some c0 ∧ w1.cell? ⟨w.heap.size + 1 + 1, 1, none⟩ = some c1 ∧ w.heap.size + 3 ≤ w1.heap.size ∧ Below w.heap.size w w1) :
    w2.cell? ⟨w.heap.size, 0, none⟩ = some a0 ∧ w2.cell? ⟨w.heap.size, 1, none⟩ = some a1 ∧ w2.cell? ⟨w.heap.size + 1, 0, none⟩ = some b0 ∧ w2.cell? ⟨w.heap.size + 1, 1, none⟩ = some b1 ∧ w2.cell? ⟨w.heap.size + 1 + 1, 0, none⟩ = some c0 ∧ w2.cell? ⟨w.heap.size + 1 + 1, 1, none⟩ = some c1 ∧ w.heap.size + 3 ≤ w2.heap.size ∧ Below w.heap.size w w2 := by
  obtain ⟨h1, h2, h3, h4, h5, h6, h7, h8⟩ := h
  obtain ⟨n1, n2, n3, n4, n5, n6⟩ := below_cells6 hb h7 ⟨h1, h2, h3, h4, h5, h6⟩
  exact ⟨n1, n2, n3, n4, n5, n6, Nat.le_trans h7 hb.size, h8.trans (hb.mono (by omega))⟩

theorem keptDrew {w w1 : World} {a0 a1 b0 b1 c0 c1 : Value}
    (h : w1.cell? ⟨w.heap.size, 0, none⟩ = some a0 ∧ w1.cell? ⟨w.heap.size, 1, none⟩ = some a1 ∧ w1.cell? ⟨w.heap.size + 1, 0, none⟩ = some b0 ∧ w1.cell? ⟨w.heap.size + 1, 1, none⟩ = some b1 ∧ w1.cell? ⟨w.heap.size + 1 + 1, 0, none⟩ = some c0 ∧ w1.cell? ⟨w.heap.size + 1 + 1, 1, none⟩ = some c1 ∧ w.heap.size + 3 ≤ w1.heap.size ∧ Below w.heap.size w w1) :
    w1.drew.cell? ⟨w.heap.size, 0, none⟩ = some a0 ∧ w1.drew.cell? ⟨w.heap.size, 1, none⟩ = some a1 ∧ w1.drew.cell? ⟨w.heap.size + 1, 0, none⟩ = some b0 ∧ w1.drew.cell? ⟨w.heap.size + 1, 1, none⟩ = some b1 ∧ w1.drew.cell? ⟨w.heap.size + 1 + 1, 0, none⟩ = some c0 ∧ w1.drew.cell? ⟨w.heap.size + 1 + 1, 1, none⟩ = some c1 ∧ w.heap.size + 3 ≤ w1.drew.heap.size ∧ Below w.heap.size w w1.drew := by
  obtain ⟨h1, h2, h3, h4, h5, h6, h7, h8⟩ := h
  exact ⟨h1, h2, h3, h4, h5, h6, h7, h8.drew⟩

theorem alloc3_cells (w : World) (a0 a1 b0 b1 c0 c1 : Value) (T : TypeId) :
    let wo := ((w.alloc (.cells #[a0, a1] T)).alloc (.cells #[b0, b1] T)).alloc (.cells #[c0, c1] T)
    wo.cell? ⟨w.heap.size, 0, none⟩ = some a0 ∧ wo.cell? ⟨w.heap.size, 1, none⟩ = some a1 ∧ wo.cell? ⟨w.heap.size + 1, 0, none⟩ = some b0 ∧ wo.cell? ⟨w.heap.size + 1, 1, none⟩ = some b1 ∧ wo.cell? ⟨w.heap.size + 1 + 1, 0, none⟩ = some c0 ∧ wo.cell? ⟨w.heap.size + 1 + 1, 1, none⟩ = some c1 := by
  dsimp only
  refine ⟨?_, ?_, ?_, ?_, ?_, ?_⟩
  · rw [World.cell?_alloc_past _ _ _ (by simp <;> omega), World.cell?_alloc_past _ _ _ (by simp), World.cell?_alloc_at _ _ _ _ rfl]; rfl
  · rw [World.cell?_alloc_past _ _ _ (by simp <;> omega), World.cell?_alloc_past _ _ _ (by simp), World.cell?_alloc_at _ _ _ _ rfl]; rfl
  · rw [World.cell?_alloc_past _ _ _ (by simp <;> omega), World.cell?_alloc_at _ _ _ _ (by simp)]; rfl
  · rw [World.cell?_alloc_past _ _ _ (by simp <;> omega), World.cell?_alloc_at _ _ _ _ (by simp)]; rfl
  · rw [World.cell?_alloc_at _ _ _ _ (by simp)]; rfl
  · rw [World.cell?_alloc_at _ _ _ _ (by simp)]; rfl

theorem FSl.drew {w : World} {v : Value} {l : List Nat} (h : FSl w v l) : FSl w.drew v l := h

theorem less_FSl (x y : Nat) (hx : x < 2 ^ 64) (hy : y < 2 ^ 64) (cx : coordB x = true) (cy : coordB y = true) (w : World) :
    Calls Tryz.prog 187 #[.float .f64 x, .float .f64 y] w fun r w' => ∃ v', r = .returned v' ∧ FSl w' v' (lessW x y) ∧ Below w.heap.size w w' := by
  obtain ⟨_, _, _, x4⟩ := coord_tame hx cx
  obtain ⟨_, _, _, y4⟩ := coord_tame hy cy
  obtain ⟨hs, _, _⟩ := less_facts hx hy cx cy
  exact (less_walk x y x4 y4 w).mono fun r w' ⟨v', h1, h2, h3⟩ => ⟨v', h1, FSl_of_own h2 (by have := hs.len; omega) (fun z hz => (hs.fins z hz).1), h3⟩

set_option maxRecDepth 100000 in
set_option maxHeartbeats 4000000 in
theorem exactly_walk (ax ay bx bY cx cy : Nat) (oax : coordB ax = true) (oay : coordB ay = true) (obx : coordB bx = true) (oby : coordB bY = true) (ocx : coordB cx = true) (ocy : coordB cy = true)
    (hax : ax < 2 ^ 64) (hay : ay < 2 ^ 64) (hbx : bx < 2 ^ 64) (hby : bY < 2 ^ 64) (hcx : cx < 2 ^ 64) (hcy : cy < 2 ^ 64) (w : World) :
    Calls Tryz.prog 149 #[V (ax, ay), V (bx, bY), V (cx, cy)] w fun r w' => r = .returned (.int .i64 (sgnI (det (ax, ay) (bx, bY) (cx, cy)))) ∧ Below w.heap.size w w' := by
  have HL1 := Lib.hid (less_FSl bx ax hbx hax obx oax)
  have HL2 := Lib.hid (less_FSl cy ay hcy hay ocy oay)
  have HL3 := Lib.hid (less_FSl bY ay hby hay oby oay)
  have HL4 := Lib.hid (less_FSl cx ax hcx hax ocx oax)
  obtain ⟨s1, e1, g1⟩ := less_facts hbx hax obx oax
  obtain ⟨s2, e2, g2⟩ := less_facts hcy hay ocy oay
  obtain ⟨s3, e3, g3⟩ := less_facts hby hay oby oay
  obtain ⟨s4, e4, g4⟩ := less_facts hcx hax ocx oax
  have HM1 := Lib.hid (fun va vb => mul_walk (lessW bx ax) (lessW cy ay) va vb s1 s2)
  have HM2 := Lib.hid (fun va vb => mul_walk (lessW bY ay) (lessW cx ax) va vb s3 s4)
  have HC : Hid (∀ va vb w, FSl w va (mulW (lessW bx ax) (lessW cy ay)) → FSl w vb (mulW (lessW bY ay) (lessW cx ax)) → Calls Tryz.prog 190 #[va, vb] w fun r w' => r = .returned (.int .i64 (sgnI (det (ax, ay) (bx, bY) (cx, cy)))) ∧ Below w.heap.size w w') := by
    intro va vb w ha hb
    obtain ⟨S, m1, m2, m3, _⟩ := mul_facts s1 s2
    obtain ⟨T, t1, t2, t3, _⟩ := mul_facts s3 s4
    have := cmp_walk _ _ va vb S T m1 t1 m3 t3 w ha hb
    rw [e1, e2] at m2
    rw [e3, e4] at t2
    have hd : det (ax, ay) (bx, bY) (cx, cy) = (S - T) * 2 ^ unitE := by rw [Int.sub_mul, m2, t2]; rfl
    rw [hd, sgnI_mul]
    exact this
  clear oax oay obx oby ocx ocy hax hay hbx hby hcx hcy s1 s2 s3 s4 e1 e2 e3 e4 g1 g2 g3 g4
  unfold V
  go_enter Tryz.func149, Tryz.ntmps149
  go_wp2
  obtain ⟨wo, hwo⟩ : ∃ wo : World, wo = ((w.alloc (.cells #[.float .f64 ax, .float .f64 ay] 52)).alloc (.cells #[.float .f64 bx, .float .f64 bY] 52)).alloc (.cells #[.float .f64 cx, .float .f64 cy] 52) := ⟨_, rfl⟩
  rw [← hwo]
  have hsz : w.heap.size + 3 ≤ wo.heap.size := by rw [hwo]; simp
  have hcs := alloc3_cells w (.float .f64 ax) (.float .f64 ay) (.float .f64 bx) (.float .f64 bY) (.float .f64 cx) (.float .f64 cy) 52
  have hbw : Below w.heap.size w wo := by rw [hwo]; exact (((Below.refl _ _).alloc (Nat.le_refl _) _).alloc (by simp) _).alloc (by simp <;> omega) _
  rw [← hwo] at hcs
  clear hwo
  have hcs8 : wo.cell? ⟨w.heap.size, 0, none⟩ = some (.float .f64 ax) ∧ wo.cell? ⟨w.heap.size, 1, none⟩ = some (.float .f64 ay) ∧ wo.cell? ⟨w.heap.size + 1, 0, none⟩ = some (.float .f64 bx) ∧ wo.cell? ⟨w.heap.size + 1, 1, none⟩ = some (.float .f64 bY) ∧ wo.cell? ⟨w.heap.size + 1 + 1, 0, none⟩ = some (.float .f64 cx) ∧ wo.cell? ⟨w.heap.size + 1 + 1, 1, none⟩ = some (.float .f64 cy) ∧ w.heap.size + 3 ≤ wo.heap.size ∧ Below w.heap.size w wo := ⟨hcs.1, hcs.2.1, hcs.2.2.1, hcs.2.2.2.1, hcs.2.2.2.2.1, hcs.2.2.2.2.2, hsz, hbw⟩
  clear hcs
  go_region_held3 (fun w' => w'.cell? ⟨w.heap.size, 0, none⟩ = some (.float .f64 ax) ∧ w'.cell? ⟨w.heap.size, 1, none⟩ = some (.float .f64 ay) ∧ w'.cell? ⟨w.heap.size + 1, 0, none⟩ = some (.float .f64 bx) ∧ w'.cell? ⟨w.heap.size + 1, 1, none⟩ = some (.float .f64 bY) ∧ w'.cell? ⟨w.heap.size + 1 + 1, 0, none⟩ = some (.float .f64 cx) ∧ w'.cell? ⟨w.heap.size + 1 + 1, 1, none⟩ = some (.float .f64 cy) ∧ w.heap.size + 3 ≤ w'.heap.size ∧ Below w.heap.size w w') (first | assumption | exact keptDrew (by assumption) | go_keep)
    (first
      | (go_at_call 187; (first
          | ((with_reducible refine (HL1.out _).mono ?_); rintro r w1 ⟨v1, rfl, hf1, hb1⟩; have n1 := kept8 (w := w) hb1 (by assumption))
          | ((with_reducible refine (HL2.out _).mono ?_); rintro r w2 ⟨v2, rfl, hf2, hb2⟩; have n2 := kept8 (w := w) hb2 (by assumption))))
      | (go_at_call 189; refine (HM1.out _ _ _ (hf1.below hb2) hf2).mono ?_; rintro r w3 ⟨v3, rfl, hf3, hb3⟩; have n3 := kept8 (w := w) hb3 (by assumption)))
  clear hb1 hf1 hf2 hb2 hb3 n1 n2 hcs8
  have hFp := Lib.hid hf3
  clear hf3
  go_wp2
  go_region_held3 (fun w' => w'.cell? ⟨w.heap.size, 0, none⟩ = some (.float .f64 ax) ∧ w'.cell? ⟨w.heap.size, 1, none⟩ = some (.float .f64 ay) ∧ w'.cell? ⟨w.heap.size + 1, 0, none⟩ = some (.float .f64 bx) ∧ w'.cell? ⟨w.heap.size + 1, 1, none⟩ = some (.float .f64 bY) ∧ w'.cell? ⟨w.heap.size + 1 + 1, 0, none⟩ = some (.float .f64 cx) ∧ w'.cell? ⟨w.heap.size + 1 + 1, 1, none⟩ = some (.float .f64 cy) ∧ w.heap.size + 3 ≤ w'.heap.size ∧ Below w.heap.size w w') (first | assumption | exact keptDrew (by assumption) | go_keep)
    (first
      | (go_at_call 187; (first
          | ((with_reducible refine (HL3.out _).mono ?_); rintro r w4 ⟨v4, rfl, hf4, hb4⟩; have n4 := kept8 (w := w) hb4 (by assumption))
          | ((with_reducible refine (HL4.out _).mono ?_); rintro r w5 ⟨v5, rfl, hf5, hb5⟩; have n5 := kept8 (w := w) hb5 (by assumption))))
      | (go_at_call 189; refine (HM2.out _ _ _ (hf4.below hb5) hf5).mono ?_; rintro r w6 ⟨v6, rfl, hf6, hb6⟩; have n6 := kept8 (w := w) hb6 (by assumption)))
  have hFp6 := Lib.hid (((FSl.drew hFp.out).below hb4).below hb5 |>.below hb6)
  have hBf := n6.2.2.2.2.2.2.2
  clear n3 n4 n5 n6 hb4 hf4 hb5 hf5
  go_wp2_with (go_at_call 190; refine (HC.out _ _ _ hFp6.out hf6).mono ?_; rintro r w7 ⟨rfl, hb7⟩)
  go_ret
  exact ⟨rfl, hBf.trans (hb7.mono hBf.size)⟩

end Go.Proofs.YtdoaniccefdkaaaGreatDoor

/- The walk of orient.Sign. -/
namespace Go.Proofs.YtdoaniccefdkaaaGreatDoor
open Go.RowKit Tvf

theorem kept8_of {w w1 : World} {a0 a1 b0 b1 c0 c1 : Value} {T : TypeId}
    (hb : Below (((w.alloc (.cells #[a0, a1] T)).alloc (.cells #[b0, b1] T)).alloc (.cells #[c0, c1] T)).heap.size (((w.alloc (.cells #[a0, a1] T)).alloc (.cells #[b0, b1] T)).alloc (.cells #[c0, c1] T)) w1) :
    w1.cell? ⟨w.heap.size, 0, none⟩ = some a0 ∧ w1.cell? ⟨w.heap.size, 1, none⟩ = some a1 ∧ w1.cell? ⟨w.heap.size + 1, 0, none⟩ = some b0 ∧ w1.cell? ⟨w.heap.size + 1, 1, none⟩ = some b1 ∧ w1.cell? ⟨w.heap.size + 1 + 1, 0, none⟩ = some c0 ∧ w1.cell? ⟨w.heap.size + 1 + 1, 1, none⟩ = some c1 ∧ w.heap.size + 3 ≤ w1.heap.size ∧ Below w.heap.size w w1 := by
  have hcs := alloc3_cells w a0 a1 b0 b1 c0 c1 T
  refine kept8 hb ⟨hcs.1, hcs.2.1, hcs.2.2.1, hcs.2.2.2.1, hcs.2.2.2.2.1, hcs.2.2.2.2.2, ?_, ?_⟩
  · simp
  · exact (((Below.refl _ _).alloc (Nat.le_refl _) _).alloc (by simp) _).alloc (by simp <;> omega) _

theorem kept8_alloc {w w1 w2 : World} {a0 a1 b0 b1 c0 c1 : Value} {D : Obj} (hb : Below (w1.alloc D).heap.size (w1.alloc D) w2)
    (h : w1.cell? ⟨w.heap.size, 0, none⟩ = some a0 ∧ w1.cell? ⟨w.heap.size, 1, none⟩ = some a1 ∧ w1.cell? ⟨w.heap.size + 1, 0, none⟩ = some b0 ∧ w1.cell? ⟨w.heap.size + 1, 1, none⟩ = some b1 ∧ w1.cell? ⟨w.heap.size + 1 + 1, 0, none⟩ = some c0 ∧ w1.cell? ⟨w.heap.size + 1 + 1, 1, none⟩ = some c1 ∧ w.heap.size + 3 ≤ w1.heap.size ∧ Below w.heap.size w w1) :
    w2.cell? ⟨w.heap.size, 0, none⟩ = some a0 ∧ w2.cell? ⟨w.heap.size, 1, none⟩ = some a1 ∧ w2.cell? ⟨w.heap.size + 1, 0, none⟩ = some b0 ∧ w2.cell? ⟨w.heap.size + 1, 1, none⟩ = some b1 ∧ w2.cell? ⟨w.heap.size + 1 + 1, 0, none⟩ = some c0 ∧ w2.cell? ⟨w.heap.size + 1 + 1, 1, none⟩ = some c1 ∧ w.heap.size + 3 ≤ w2.heap.size ∧ Below w.heap.size w w2 :=
  kept8 (((Below.refl w1.heap.size w1).alloc (Nat.le_refl _) D).trans (hb.mono (by simp))) h

set_option maxRecDepth 100000 in
set_option maxHeartbeats 1600000 in
theorem sign_gen (ax ay bx bY cx cy : Nat) (s e : Int) (ok okm : Bool)
    (hF : ∀ w, Calls Tryz.prog 147 #[V (ax, ay), V (bx, bY), V (cx, cy)] w fun r w' => r = .returned (.tuple #[.int .i64 s, .bool ok]) ∧ Below w.heap.size w w')
    (hM : ∀ w blk, w.heap[blk]? = some (.cells #[.float .f64 ax, .float .f64 ay, .float .f64 bx, .float .f64 bY, .float .f64 cx, .float .f64 cy] 52 (0, 0)) →
      Calls Tryz.prog 148 #[.slice (some ⟨blk, 0, none⟩) 3 3] w fun r w' => r = .returned (.bool okm) ∧ Below w.heap.size w w')
    (hE : okm = true → ∀ w, Calls Tryz.prog 149 #[V (ax, ay), V (bx, bY), V (cx, cy)] w fun r w' => r = .returned (.int .i64 e) ∧ Below w.heap.size w w') (w : World) :
    Calls Tryz.prog 90 #[V (ax, ay), V (bx, bY), V (cx, cy)] w fun r w' => r = .returned (.int .i64 (if ok then s else if okm then e else 0)) ∧ Below w.heap.size w w' := by
  have HF := Lib.hid hF
  have HM := Lib.hid hM
  have HE := Lib.hid hE
  clear hF hM hE
  unfold V at *
  cases ok <;> cases okm
  all_goals
    go_enter Tryz.func90, Tryz.ntmps90
    go_wp2_with (first
      | (go_at_call 147; refine (HF.out _).mono ?_; rintro r w1 ⟨rfl, hb1⟩; obtain ⟨k1, k2, k3, k4, k5, k6, k7, hbw⟩ := kept8_of hb1; clear hb1)
      | (go_at_call 148; refine (HM.out _ _ (heap_alloc_new _ _)).mono ?_; rintro r w2 ⟨rfl, hb2⟩; obtain ⟨l1, l2, l3, l4, l5, l6, l7, lbw⟩ := kept8_alloc hb2 ⟨k1, k2, k3, k4, k5, k6, k7, hbw⟩; clear hb2)
      | (go_at_call 149; refine (HE.out (by first | trivial | rfl) _).mono ?_; rintro r w3 ⟨rfl, hb3⟩; have fbw := lbw.trans (hb3.mono (by omega)); clear hb3))
    go_ret
    first | exact ⟨rfl, fbw⟩ | exact ⟨rfl, lbw⟩ | exact ⟨rfl, hbw⟩

/-- What orient.Sign computes. -/
def signI (a b c : Pt) : Int := if [a, b, c].all ptOK then sgnI (det a b c) else 0

theorem orient_sign (a b c : Pt) (h64 : ∀ p, p ∈ [a, b, c] → pt64 p) (w : World) :
    Calls Tryz.prog 90 #[V a, V b, V c] w fun r w' => r = .returned (.int .i64 (signI a b c)) ∧ Below w.heap.size w w' := by
  obtain ⟨ax, ay⟩ := a
  obtain ⟨bx, bY⟩ := b
  obtain ⟨cx, cy⟩ := c
  unfold signI
  cases hk : [(ax, ay), (bx, bY), (cx, cy)].all ptOK
  · have := sign_gen ax ay bx bY cx cy 0 0 false false (fast_no ax ay bx bY cx cy h64 hk) (fun w blk hb => may3 (ax, ay) (bx, bY) (cx, cy) h64 false hk w blk hb) (fun h => nomatch h) w
    simpa using this
  · have ha := h64 (ax, ay) (by simp)
    have hb := h64 (bx, bY) (by simp)
    have hc := h64 (cx, cy) (by simp)
    have hk' := hk
    simp only [List.all_cons, List.all_nil, Bool.and_true, Bool.and_eq_true] at hk'
    obtain ⟨oa, ob, oc⟩ := hk'
    have hF := fast_facts ha hb hc oa ob oc
    have hsg := hF.sgn
    have oa' := oa; have ob' := ob; have oc' := oc
    unfold ptOK at oa' ob' oc'
    simp only [Bool.and_eq_true] at oa' ob' oc'
    have := sign_gen ax ay bx bY cx cy _ (sgnI (det (ax, ay) (bx, bY) (cx, cy))) _ true (fast_yes ax ay bx bY cx cy h64 hk hF) (fun w blk hb => may3 (ax, ay) (bx, bY) (cx, cy) h64 true hk w blk hb)
      (fun _ => exactly_walk ax ay bx bY cx cy oa'.1 oa'.2 ob'.1 ob'.2 oc'.1 oc'.2 ha.1 ha.2 hb.1 hb.2 hc.1 hc.2) w
    refine this.mono ?_
    rintro r w' ⟨rfl, h2⟩
    refine ⟨?_, h2⟩
    cases hq : fastOK (ax, ay) (bx, bY) (cx, cy)
    · simp
    · simp [hsg hq]

end Go.Proofs.YtdoaniccefdkaaaGreatDoor

/- (*Mesh).Make: the ways on which no triangle is made. -/
namespace Go.Proofs.YtdoaniccefdkaaaGreatDoor
open Go.RowKit Go.Maps Go.WideMaps

set_option maxRecDepth 100000 in
set_option maxHeartbeats 1000000 in
theorem make_index {w : World} {mb n : Nat} {M : MeshM} {F : Nat → Prop} (h : MeshAt w mb n M F) (a b c : Int) (hh : (hasM M a && hasM M b && hasM M c) = false) :
    Calls Tryz.prog 28 #[.pointer (some ⟨mb, 0, none⟩), .int .i64 a, .int .i64 b, .int .i64 c] w fun r w' => r = .returned (.int .i64 11) ∧ w' = w := by
  have HA := Lib.hid (has_walk h a)
  have HB := Lib.hid (has_walk h b)
  have HC := Lib.hid (has_walk h c)
  clear h
  generalize hasM M a = xa at *
  generalize hasM M b = xb at *
  generalize hasM M c = xc at *
  cases xa <;> cases xb <;> cases xc <;> first | (exfalso; revert hh; decide) | skip
  all_goals
    clear hh
    go_enter Tryz.func28, Tryz.ntmps28
    go_wp2_with (go_at_call 89; (first | (with_reducible refine HA.out.mono ?_) | (with_reducible refine HB.out.mono ?_) | (with_reducible refine HC.out.mono ?_)); rintro r w1 ⟨rfl, rfl⟩)
    go_ret
    exact ⟨rfl, rfl⟩

/-- the sign of three numbered points -/
def signM (M : MeshM) (a b c : Nat) : Int := signI (M.P.getD a (0, 0)) (M.P.getD b (0, 0)) (M.P.getD c (0, 0))

theorem getD_mem' {l : List Pt} {k : Nat} (h : k < l.length) : l.getD k (0, 0) ∈ l := getD_memP h

theorem signM_walk (M : MeshM) (h64 : ∀ p, p ∈ M.P → pt64 p) {a b c : Nat} (ha : a < M.P.length) (hb : b < M.P.length) (hc : c < M.P.length) (w : World) :
    Calls Tryz.prog 90 #[.agg #[.float .f64 (M.P.getD a (0, 0)).1, .float .f64 (M.P.getD a (0, 0)).2], .agg #[.float .f64 (M.P.getD b (0, 0)).1, .float .f64 (M.P.getD b (0, 0)).2], .agg #[.float .f64 (M.P.getD c (0, 0)).1, .float .f64 (M.P.getD c (0, 0)).2]] w
      fun r w' => r = .returned (.int .i64 (signM M a b c)) ∧ Below w.heap.size w w' :=
  orient_sign _ _ _ (by
    intro p hp
    simp only [List.mem_cons, List.not_mem_nil, or_false] at hp
    rcases hp with rfl | rfl | rfl
    · exact h64 _ (getD_mem' ha)
    · exact h64 _ (getD_mem' hb)
    · exact h64 _ (getD_mem' hc)) w

theorem hasM_nat {M : MeshM} {a : Nat} (h : a < M.P.length) : hasM M a = true := by unfold hasM; simp; omega

set_option maxRecDepth 100000 in
set_option maxHeartbeats 1000000 in
theorem make_sign {w : World} {mb n : Nat} {M : MeshM} {F : Nat → Prop} (h : MeshAt w mb n M F) (h64 : ∀ p, p ∈ M.P → pt64 p) (hl : M.P.length ≤ 1048576) {a b c : Nat} (ha : a < M.P.length) (hb : b < M.P.length) (hc : c < M.P.length) (hs : signM M a b c ≤ 0) :
    Calls Tryz.prog 28 #[.pointer (some ⟨mb, 0, none⟩), .int .i64 a, .int .i64 b, .int .i64 c] w fun r w' => r = .returned (.int .i64 14) ∧ Below w.heap.size w w' := by
  have HA := Lib.hid (has_walk h a)
  have HB := Lib.hid (has_walk h b)
  have HC := Lib.hid (has_walk h c)
  rw [hasM_nat ha] at HA
  rw [hasM_nat hb] at HB
  rw [hasM_nat hc] at HC
  obtain ⟨ba, bs, bf, pv, sv, h⟩ := h
  obtain ⟨ad, cap, rfl, hpc⟩ := h.ptcells
  obtain ⟨bp, off, rfl, _, hpc⟩ := hpc (by omega)
  have c0 := h.c0
  obtain ⟨ax, ay⟩ := hpc a ha
  obtain ⟨bx, bY⟩ := hpc b hb
  obtain ⟨cx, cy⟩ := hpc c hc
  have HS := Lib.hid (signM_walk M h64 ha hb hc)
  have HSS := Lib.hid hs
  clear h hpc h64 hs
  generalize M.P.getD a (0, 0) = pa at *
  generalize M.P.getD b (0, 0) = pb at *
  generalize M.P.getD c (0, 0) = pc at *
  generalize signM M a b c = s at *
  generalize M.P.length = L at *
  go_enter Tryz.func28, Tryz.ntmps28
  go_wp2_with (go_at_call 89; (first | (with_reducible refine HA.out.mono ?_) | (with_reducible refine HB.out.mono ?_) | (with_reducible refine HC.out.mono ?_)); rintro r w1 ⟨rfl, rfl⟩)
  go_still_tail 21, (by kernel_rfl)
  go_wp2_with (go_at_call 90; refine (HS.out _).mono ?_; rintro r w2 ⟨rfl, hb2⟩)
  all_goals first | (exfalso; have := HSS.out; omega) | skip
  go_ret
  exact ⟨rfl, (Below.refl _ w1).drew.trans hb2⟩

end Go.Proofs.YtdoaniccefdkaaaGreatDoor

/- One edge and one spoke more: what the stores leave. -/
namespace Go.Proofs.YtdoaniccefdkaaaGreatDoor
open Go.RowKit Go.Maps Go.WideMaps

/-- one edge more, with its spoke -/
def addE (M : MeshM) (a b c : Int) : MeshM := { M with ap := upE M.ap a b c, sp := upI M.sp a (M.sp a ++ [b]) }

/-- what stands at a key of the spokes -/
def atSv (sv : Int → Option Value) (a : Int) : Value := (sv a).getD (.slice none 0 0)

theorem SpokeRows.at {w : World} {sv : Int → Option Value} {sp : Int → List Int} {F av : Nat → Prop} (h : SpokeRows w sv sp F av) (a : Int) : w.ownsInts 0 3 .i64 (atSv sv a) (sp a) := by
  unfold atSv
  cases hs : sv a with
  | none => rw [h.none a hs]; exact World.ownsInts_nil _ _ _ _
  | some v => exact h.own a v hs

theorem atSv_block {sv : Int → Option Value} {a : Int} {g : Nat} (h : (atSv sv a).ownBlock = some g) : ∃ v, sv a = some v ∧ v.ownBlock = some g ∧ atSv sv a = v := by
  unfold atSv at *
  cases hs : sv a with
  | none => rw [hs] at h; simp [Value.ownBlock] at h
  | some v => rw [hs] at h; exact ⟨v, rfl, h, rfl⟩

theorem upI_same {α : Type} (f : Int → α) (a : Int) (v : α) : upI f a v a = v := by simp [upI]
theorem upI_other {α : Type} (f : Int → α) {a x : Int} (v : α) (h : x ≠ a) : upI f a v x = f x := by simp [upI, h]

theorem step_parts {wr W1 W2 W2' W3 W4 : World} {mb ba bs bf n : Nat} {pv : Value} {sv : Int → Option Value} {M : MeshM} {F : Nat → Prop} (h : MeshParts wr mb ba bs bf n pv sv M F) {x y z : Int} (hy : i64ok y)
    (b01 : Below wr.heap.size wr W1) (g12 : W1.grownBy W2 (some ba)) (hap : FMap Tryz.prog W2 117 ba (n + 1) (updV (edgeV M.ap) (kE x y) (vI z)))
    (b22 : Below W2.heap.size W2 W2') (v' : Value) (g23 : W2'.grownBy W3 (atSv sv x).ownBlock) (hrow : W3.ownsRow 0 3 1 v' ((M.sp x).length + 1) ((M.sp x).map (Value.int .i64) ++ [.int .i64 y]))
    (hloc : v'.ownBlock = (atSv sv x).ownBlock ∨ v'.ownBlock = some W2'.heap.size)
    (hsp : FMap Tryz.prog W4 3 bs (n + 1) (updV (intV sv) (vI x) v')) (g34 : W3.grownBy W4 (some bs)) :
    MeshParts W4 mb ba bs bf (n + 1) pv (upI sv x (some v')) (addE M x y z) (fun i => F i ∨ (wr.heap.size ≤ i ∧ i < W4.heap.size)) ∧ Stay F wr W4 := by
  have s1 := b01.size
  have s2 := g12.size
  have s3 := b22.size
  have s4 := g23.size
  have s5 := g34.size
  have hba := h.flt ba h.fba
  have hbs := h.flt bs h.fbs
  have hbf := h.flt bf h.fbf
  have hmb := h.flt mb h.fmb
  -- an old block that is none of the three
  have old : ∀ i, i < wr.heap.size → i ≠ ba → i ≠ bs → (atSv sv x).ownBlock ≠ some i → W4.heap[i]? = wr.heap[i]? := by
    intro i hi h1 h2 h3
    rw [g34.block i (by omega) (by simpa using h2), g23.block i (by omega) (fun e => h3 e.symm), b22.block i (by omega), g12.block i (by omega) (by simpa using h1), b01.block i hi]
  -- blocks of other kinds
  have rowF : ∀ g, (atSv sv x).ownBlock = some g → F g ∧ g ≠ mb ∧ pv.ownBlock ≠ some g ∧ g < wr.heap.size := by
    intro g hg
    obtain ⟨v, hv, hvg, _⟩ := atSv_block hg
    have := h.rows.inF x v g hv hvg
    exact ⟨this.1, fun e => this.2 (.inl e), fun e => this.2 (.inr e), h.flt g this.1⟩
  have rowCells : ∀ a v g, sv a = some v → v.ownBlock = some g → ∃ cur e, wr.heap[g]? = some (.cells cur e (0, 0)) := by
    intro a v g hv hg
    rcases (h.rows.own a v hv).1.2 with ⟨rfl, _⟩ | ⟨g', cap, cur, rfl, _, hh, _⟩
    · simp [Value.ownBlock] at hg
    · simp [Value.ownBlock] at hg; subst hg; exact ⟨cur, _, hh⟩
  have isMap : ∀ {k : TypeId} {b n : Nat} {f : Value → Option Value}, FMap Tryz.prog wr k b n f → ∀ a v, sv a = some v → v.ownBlock ≠ some b := by
    intro k b n f hf a v hv e
    obtain ⟨cur, ty, h1⟩ := rowCells a v b hv e
    obtain ⟨es, cl, h2⟩ := hf.isMap
    rw [h1] at h2; cases h2
  have rowNe : ∀ {k : TypeId} {b n : Nat} {f : Value → Option Value}, FMap Tryz.prog wr k b n f → (atSv sv x).ownBlock ≠ some b := by
    intro k b n f hf e
    obtain ⟨v, hv, hvg, _⟩ := atSv_block e
    exact isMap hf x v hv hvg
  have mbMap : ∀ {k : TypeId} {b n : Nat} {f : Value → Option Value}, FMap Tryz.prog wr k b n f → mb ≠ b := by
    intro k b n f hf e
    subst e
    obtain ⟨es, cl, h2⟩ := hf.isMap
    have := h.c0
    simp [World.cell?, h2] at this
  have pvMap : ∀ {k : TypeId} {b n : Nat} {f : Value → Option Value}, FMap Tryz.prog wr k b n f → pv.ownBlock ≠ some b := by
    intro k b n f hf e
    rcases h.pts.2 with ⟨h1, _⟩ | ⟨g', cap, cur, h1, _, hh, _⟩
    · rw [h1] at e; simp [Value.ownBlock] at e
    · rw [h1] at e; simp [Value.ownBlock] at e; subst e
      obtain ⟨es, cl, h2⟩ := hf.isMap
      rw [hh] at h2; cases h2
  have mbOld : W4.heap[mb]? = wr.heap[mb]? := old mb hmb (mbMap h.apm) (mbMap h.spm) (fun e => (rowF mb e).2.1 rfl)
  have bfOld : W4.heap[bf]? = wr.heap[bf]? := old bf hbf (Ne.symm h.naf) (Ne.symm h.nsf) (rowNe h.fxm)
  have hc : ∀ i, W4.cell? ⟨mb, i, none⟩ = wr.cell? ⟨mb, i, none⟩ := fun i => World.cell?_of_block mbOld
  have hv'F : ∀ g, v'.ownBlock = some g → (F g ∨ (wr.heap.size ≤ g ∧ g < W4.heap.size)) ∧ g ≠ mb ∧ pv.ownBlock ≠ some g := by
    intro g hg
    rcases hloc with e | e
    · have := rowF g (e ▸ hg); exact ⟨.inl this.1, this.2.1, this.2.2.1⟩
    · rw [hg] at e; cases e
      have hlt := hrow.lt _ hg
      refine ⟨.inr ⟨by omega, by omega⟩, by omega, fun e => ?_⟩
      have := h.flt _ (h.fpv _ e); omega
  refine ⟨⟨(hc 0).trans h.c0, (hc 1).trans h.c1, (hc 2).trans h.c2, (hc 3).trans h.c3, (hc 4).trans h.c4, fun i => (World.frozen?_of_block mbOld).trans (h.fz i), ?_, ?_, ?_, ?_, ?_, h.nab, h.naf, h.nsf, h.npm, .inl h.fmb, .inl h.fba, .inl h.fbs, .inl h.fbf, fun g hg => .inl (h.fpv g hg), ?_, ?_, by have := h.cb; show -((n + 1 : Nat) : Int) ≤ M.cnt ∧ M.cnt ≤ ((n + 1 : Nat) : Int); omega⟩, ?_⟩
  · exact ownsRow_same h.pts fun g hg => old g (h.flt g (h.fpv g hg)) (fun e => pvMap h.apm (e ▸ hg)) (fun e => pvMap h.spm (e ▸ hg)) (fun e => (rowF g e).2.2.1 hg)
  · have : FMap Tryz.prog W4 117 ba (n + 1) (updV (edgeV M.ap) (kE x y) (vI z)) := by
      refine hap.same ?_
      rw [g34.block ba (by omega) (by simpa using h.nab), g23.block ba (by omega) (fun e => rowNe h.apm e.symm), b22.block ba (by omega)]
    rw [edgeV_up] at this
    exact this
  · have := hsp
    rw [intV_up] at this
    exact this
  · exact (h.fxm.mono (Nat.le_succ n)).same bfOld
  · refine ⟨fun a ha => ?_, fun a v hv => ?_, fun a a' v u hne hv hu => ?_, fun a v g hv hg => ?_⟩
    · by_cases e : a = x
      · subst e; rw [upI_same] at ha; cases ha
      · rw [upI_other _ _ e] at ha
        show upI M.sp x _ a = []
        rw [upI_other _ _ e]; exact h.rows.none a ha
    · by_cases e : a = x
      · subst e; rw [upI_same] at hv; cases hv
        show W4.ownsInts 0 _ _ v' (upI M.sp a _ a)
        rw [upI_same]
        refine ⟨?_, ?_⟩
        · have hh : W4.ownsRow 0 3 1 v' ((M.sp a).length + 1) ((M.sp a).map (Value.int .i64) ++ [.int .i64 y]) := by
            refine ownsRow_same hrow fun g hg => g34.block g (hrow.lt g hg).2 ?_
            intro e
            simp only [Option.some.injEq] at e
            subst e
            rcases hloc with e | e
            · exact rowNe h.spm (e ▸ hg)
            · rw [hg] at e; cases e; omega
          simpa using hh
        · intro q hq
          rcases List.mem_append.1 hq with hq | hq
          · exact (h.rows.at a).2 q hq
          · simp at hq; subst hq; exact wf_of hy
      · rw [upI_other _ _ e] at hv
        show W4.ownsInts 0 _ _ v (upI M.sp x _ a)
        rw [upI_other _ _ e]
        refine ⟨ownsRow_same (h.rows.own a v hv).1 fun g hg => ?_, (h.rows.own a v hv).2⟩
        refine old g (h.flt g (h.rows.inF a v g hv hg).1) (fun e => isMap h.apm a v hv (e ▸ hg)) (fun e => isMap h.spm a v hv (e ▸ hg)) (fun e1 => ?_)
        obtain ⟨u, hu, hug, _⟩ := atSv_block e1
        rcases h.rows.dis a x v u e hv hu with d | d
        · rw [hg] at d; cases d
        · exact d (hg.trans hug.symm)
    · -- no two keys' slices in one row
      have key : ∀ a v, a ≠ x → sv a = some v → v.ownBlock = none ∨ v.ownBlock ≠ v'.ownBlock := by
        intro a v hne hv
        cases hb : v.ownBlock with
        | none => exact .inl rfl
        | some g =>
          right; intro e
          rcases hloc with e1 | e1
          · rw [e1] at e
            obtain ⟨u, hu, hug, _⟩ := atSv_block e.symm
            rcases h.rows.dis a x v u hne hv hu with d | d
            · rw [hb] at d; cases d
            · exact d (hb.trans hug.symm)
          · rw [e1] at e; cases e
            have := h.flt _ (h.rows.inF a v _ hv hb).1
            omega
      by_cases e : a = x
      · subst e; rw [upI_same] at hv; cases hv
        rw [upI_other _ _ (Ne.symm hne)] at hu
        rcases key a' u (Ne.symm hne) hu with d | d
        · cases hb : v'.ownBlock with
          | none => exact .inl rfl
          | some g => right; rw [d]; simp
        · exact .inr (Ne.symm d)
      · rw [upI_other _ _ e] at hv
        by_cases e' : a' = x
        · subst e'; rw [upI_same] at hu; cases hu
          exact key a v e hv
        · rw [upI_other _ _ e'] at hu
          exact h.rows.dis a a' v u hne hv hu
    · by_cases e : a = x
      · subst e; rw [upI_same] at hv; cases hv
        have := hv'F g hg
        exact ⟨this.1, fun e => e.elim this.2.1 this.2.2⟩
      · rw [upI_other _ _ e] at hv
        exact ⟨.inl (h.rows.inF a v g hv hg).1, (h.rows.inF a v g hv hg).2⟩
  · intro g hg
    rcases hg with hg | hg
    · have := h.flt g hg; omega
    · exact hg.2
  · intro a
    show (upI M.sp x _ a).length ≤ _
    by_cases e : a = x
    · subst e; rw [upI_same]
      have := h.spl a
      simp; omega
    · rw [upI_other _ _ e]
      have := h.spl a; omega
  · refine ⟨?_, ?_, ?_, by omega, fun i hi hF => old i hi (fun e => hF (e ▸ h.fba)) (fun e => hF (e ▸ h.fbs)) (fun e => hF (rowF i e).1)⟩
    · rw [g34.os, g23.os, b22.os, g12.os, b01.os]
    · rw [g34.tape, g23.tape, b22.tape, g12.tape, b01.tape]
    · rw [g34.output, g23.output, b22.output, g12.output, b01.output]

/-- the round of Make's second loop, off the walk -/
theorem round_parts {w1 wr W1 W2 W2' W3 W4 : World} {mb ba bs bf n B : Nat} {pv : Value} {sv : Int → Option Value} {M : MeshM} {F : Nat → Prop} {L : Obj}
    (h : MeshParts wr mb ba bs bf n pv sv M (fun i => F i ∨ (B < i ∧ i < wr.heap.size))) (hst : Stay F w1 wr) (hF : ∀ i, F i → i < w1.heap.size) (hB : w1.heap.size ≤ B) (hL : wr.heap[B]? = some L)
    {x y z : Int} (hy : i64ok y)
    (b01 : Below wr.heap.size wr W1) (g12 : W1.grownBy W2 (some ba)) (hap : FMap Tryz.prog W2 117 ba (n + 1) (updV (edgeV M.ap) (kE x y) (vI z)))
    (b22 : Below W2.heap.size W2 W2') {g3 cap3 : Nat} (g23 : W2'.grownBy W3 (atSv sv x).ownBlock) (hrow : W3.ownsRow 0 3 1 (.slice (some ⟨g3, 0, none⟩) ((M.sp x).length + 1) cap3) ((M.sp x).length + 1) ((M.sp x).map (Value.int .i64) ++ [.int .i64 y]))
    (hloc : (atSv sv x).ownBlock = some g3 ∨ g3 = W2'.heap.size)
    (hsp : FMap Tryz.prog W4 3 bs (n + 1) (updV (intV sv) (vI x) (.slice (some ⟨g3, 0, none⟩) ((M.sp x).length + 1) cap3))) (g34 : W3.grownBy W4 (some bs)) :
    MeshParts W4 mb ba bs bf (n + 1) pv (upI sv x (some (.slice (some ⟨g3, 0, none⟩) ((M.sp x).length + 1) cap3))) (addE M x y z) (fun i => F i ∨ (B < i ∧ i < W4.heap.size)) ∧ Stay F w1 W4 ∧ W4.heap[B]? = some L := by
  have hBl : B < wr.heap.size := (Array.getElem?_eq_some_iff.1 hL).1
  obtain ⟨p, st⟩ := step_parts h hy b01 g12 hap b22 _ g23 hrow (hloc.elim (fun e => .inl (by rw [e]; rfl)) (fun e => .inr (by rw [← e]; rfl))) hsp g34
  have hs := st.size
  refine ⟨p.wider (fun g hg => ?_) (fun g hg => ?_), hst.trans (st.mono fun i hi => ?_), (st.block B hBl ?_).trans hL⟩
  · rcases hg with (hg | hg) | hg
    · exact .inl hg
    · exact .inr ⟨hg.1, by omega⟩
    · exact .inr ⟨by omega, hg.2⟩
  · rcases hg with hg | hg
    · have := hF g hg; have := hst.size; omega
    · exact hg.2
  · rcases hi with hi | hi
    · exact .inl hi
    · exact .inr (by omega)
  · rintro (e | e)
    · have := hF B e; omega
    · omega

theorem heap_setCell_other (w : World) (a : Addr) (v : Value) {i : Nat} (h : i ≠ a.block) : (w.setCell a v).heap[i]? = w.heap[i]? := by
  unfold World.setCell
  simp [Array.getElem?_modify, Ne.symm h]

theorem cnt_parts {w : World} {mb ba bs bf n : Nat} {pv : Value} {sv : Int → Option Value} {M : MeshM} {F : Nat → Prop} (h : MeshParts w mb ba bs bf n pv sv M F) (v : Int) (hv : -(n : Int) ≤ v ∧ v ≤ n) :
    MeshParts (w.setCell ⟨mb, 3, none⟩ (.int .i64 v)) mb ba bs bf n pv sv { M with cnt := v } F ∧ Stay F w (w.setCell ⟨mb, 3, none⟩ (.int .i64 v)) := by
  have hs : ∀ i, i ≠ mb → (w.setCell ⟨mb, 3, none⟩ (.int .i64 v)).heap[i]? = w.heap[i]? := fun i hi => heap_setCell_other w _ _ hi
  have hc : ∀ i, i ≠ 3 → (w.setCell ⟨mb, 3, none⟩ (.int .i64 v)).cell? ⟨mb, i, none⟩ = w.cell? ⟨mb, i, none⟩ := fun i hi => World.cell?_setCell_other _ _ _ _ (fun e => hi (by cases e; rfl))
  have mbMap : ∀ {k : TypeId} {b n : Nat} {f : Value → Option Value}, FMap Tryz.prog w k b n f → b ≠ mb := by
    intro k b n f hf e
    subst e
    obtain ⟨es, cl, h2⟩ := hf.isMap
    have := h.c0
    simp [World.cell?, h2] at this
  refine ⟨⟨(hc 0 (by omega)).trans h.c0, (hc 1 (by omega)).trans h.c1, (hc 2 (by omega)).trans h.c2, World.cell?_setCell_same _ _ _ h.c3, (hc 4 (by omega)).trans h.c4, fun i => by rw [World.frozen?_setCell]; exact h.fz i,
    ownsRow_same h.pts fun g hg => hs g (fun e => h.npm (e ▸ hg)), h.apm.same (hs ba (mbMap h.apm)), h.spm.same (hs bs (mbMap h.spm)), h.fxm.same (hs bf (mbMap h.fxm)),
    h.rows.same fun g _ ha => hs g (fun e => ha (.inl e)), h.nab, h.naf, h.nsf, h.npm, h.fmb, h.fba, h.fbs, h.fbf, h.fpv, fun g hg => by rw [World.size_setCell]; exact h.flt g hg, h.spl, hv⟩, ?_⟩
  exact ⟨rfl, rfl, rfl, by rw [World.size_setCell]; exact Nat.le_refl _, fun i hi hF => hs i (fun e => hF (e ▸ h.fmb))⟩

theorem FMap.drew {P : Program} {w : World} {k : TypeId} {b n : Nat} {f : Value → Option Value} (h : FMap P w k b n f) : FMap P w.drew k b n f := h

theorem grown_drew {w w' : World} {row : Option Nat} (h : w.drew.grownBy w' row) : w.grownBy w' row := ⟨h.os, h.tape, h.output, h.size, h.block⟩

/-- what Make's statement on the spokes reads -/
def Reads3 (w : World) (mb bs eb : Nat) (x y : Value) : Prop := w.cell? ⟨mb, 2, none⟩ = some (.map (some bs)) ∧ w.cell? ⟨eb, 0, none⟩ = some x ∧ w.cell? ⟨eb, 1, none⟩ = some y
theorem Reads3.alloc {w : World} {mb bs eb : Nat} {x y : Value} (h : Reads3 w mb bs eb x y) (o : Obj) : Reads3 (w.alloc o) mb bs eb x y :=
  ⟨Lib.cell?_alloc_some _ h.1, Lib.cell?_alloc_some _ h.2.1, Lib.cell?_alloc_some _ h.2.2⟩
theorem Reads3.grown {w w' : World} {mb bs eb : Nat} {x y : Value} {row : Option Nat} (h : Reads3 w mb bs eb x y) (hg : w.grownBy w' row) (h1 : some mb ≠ row) (h2 : some eb ≠ row) : Reads3 w' mb bs eb x y :=
  ⟨hg.cell h.1 h1, hg.cell h.2.1 h2, hg.cell h.2.2 h2⟩

theorem MeshParts.mb_ne {w : World} {mb ba bs bf n : Nat} {pv : Value} {sv : Int → Option Value} {M : MeshM} {F : Nat → Prop} (h : MeshParts w mb ba bs bf n pv sv M F) {k : TypeId} {b n : Nat} {f : Value → Option Value} (hf : FMap Tryz.prog w k b n f) : mb ≠ b := by
  intro e
  subst e
  obtain ⟨es, cl, h2⟩ := hf.isMap
  have := h.c0
  simp [World.cell?, h2] at this

theorem MeshParts.row_ne {w : World} {mb ba bs bf n : Nat} {pv : Value} {sv : Int → Option Value} {M : MeshM} {F : Nat → Prop} (h : MeshParts w mb ba bs bf n pv sv M F) {k : TypeId} {b n : Nat} {f : Value → Option Value} (hf : FMap Tryz.prog w k b n f) (x : Int) : (atSv sv x).ownBlock ≠ some b := by
  intro e
  obtain ⟨v, hv, hvg, _⟩ := atSv_block e
  obtain ⟨es, cl, h2⟩ := hf.isMap
  rcases (h.rows.own x v hv).1.2 with ⟨rfl, _⟩ | ⟨g', cap, cur, rfl, _, hh, _⟩
  · simp [Value.ownBlock] at hvg
  · simp [Value.ownBlock] at hvg; subst hvg; rw [hh] at h2; cases h2

theorem MeshParts.row_facts {w : World} {mb ba bs bf n : Nat} {pv : Value} {sv : Int → Option Value} {M : MeshM} {F : Nat → Prop} (h : MeshParts w mb ba bs bf n pv sv M F) (x : Int) :
    (atSv sv x).ownBlock ≠ some mb ∧ (atSv sv x).ownBlock ≠ some w.heap.size ∧ (atSv sv x).ownBlock ≠ some bs ∧ mb ≠ bs ∧ w.heap.size ≠ bs := by
  refine ⟨fun e => ?_, fun e => ?_, h.row_ne h.spm x, h.mb_ne h.spm, fun e => ?_⟩
  · obtain ⟨v, hv, hvg, _⟩ := atSv_block e
    exact (h.rows.inF x v _ hv hvg).2 (.inl rfl)
  · obtain ⟨v, hv, hvg, _⟩ := atSv_block e
    have := h.flt _ (h.rows.inF x v _ hv hvg).1
    omega
  · have := h.flt _ h.fbs; omega

/-- a look-up in the spokes, as an equation -/
theorem lookS {w : World} {bm n : Nat} {sv : Int → Option Value} (h : FMap Tryz.prog w 3 bm n (intV sv)) {a : Int} (ha : i64ok a) :
    (Instr.lookup 114 (.map (some bm)) (.int .i64 a) false).run Tryz.prog w = .ok (atSv sv a) w := by
  have := (h.look intLaw Tryz.underlying114 (z := .slice none 0 0) (by kernel_rfl) (keyI ha)).1
  exact this

end Go.Proofs.YtdoaniccefdkaaaGreatDoor
