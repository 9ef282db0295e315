/- Part of the proof. No conditions. -/
import Derived.Test.YtdoaniccefdkaaaGreatDoorZA
import Derived.Test.YtdoaniccefdkaaaGreatDoorZB

set_option linter.all false
/- walk: a point's place, plainly. -/
namespace Go.Proofs.YtdoaniccefdkaaaGreatDoor
open Go.RowKit Tvf Go.Maps Go.WideMaps

/-- a place -/
structure Plc where
  k : Int
  a : Int
  b : Int
  c : Int
def encTV (t : Tri3) : Value := .agg #[.int .i64 t.1, .int .i64 t.2.1, .int .i64 t.2.2]
def plcV (x : Plc) : Value := .agg #[.int .u8 x.k, .int .i64 x.a, .int .i64 x.b, .int .i64 x.c]
def plc0 : Plc := ⟨0, 0, 0, 0⟩
/-- two points that may be, held against each other -/
def holdI (p q : Pt) : Int := if sgnI (fval p.1 - fval q.1) = 0 then sgnI (fval p.2 - fval q.2) else sgnI (fval p.1 - fval q.1)
def cmpI (p q : Pt) : Int := if ptOK p && ptOK q then holdI p q else 0

def sdM (M : MeshM) (p : Pt) (a b : Int) : Int := signI (ptAt M a) (ptAt M b) p
/-- the first corner that is like a point -/
def onM (M : MeshM) (p : Pt) (t : Tri3) : Option Int :=
  if cmpI (ptAt M t.1) p = 0 then some t.1 else if cmpI (ptAt M t.2.1) p = 0 then some t.2.1 else if cmpI (ptAt M t.2.2) p = 0 then some t.2.2 else none
/-- the last edge on which it lies -/
def edgeM (M : MeshM) (p : Pt) (t : Tri3) : Int :=
  if sdM M p t.2.2 t.1 = 0 then 2 else if sdM M p t.2.1 t.2.2 = 0 then 1 else if sdM M p t.1 t.2.1 = 0 then 0 else -1
/-- the corner of a number (3: the first again) -/
def corT (t : Tri3) (i : Int) : Int := if i = 1 then t.2.1 else if i = 2 then t.2.2 else t.1
def placeM (M : MeshM) (p : Pt) (t : Tri3) : Plc :=
  if edgeM M p t < 0 then ⟨1, t.1, t.2.1, t.2.2⟩ else match onM M p t with
  | some a => ⟨3, a, 0, 0⟩
  | none => ⟨2, minI (corT t (edgeM M p t)) (corT t (edgeM M p t + 1)), maxI (corT t (edgeM M p t)) (corT t (edgeM M p t + 1)), 0⟩
/-- the first edge beyond which it lies -/
def outM (M : MeshM) (p : Pt) (t : Tri3) : Option Int :=
  if sdM M p t.1 t.2.1 = -1 then some 0 else if sdM M p t.2.1 t.2.2 = -1 then some 1 else if sdM M p t.2.2 t.1 = -1 then some 2 else none
/-- a triangle from its least corner on -/
def ownT (a b c : Int) : Tri3 := if b < a ∧ b < c then (b, c, a) else if c < a ∧ c < b then (c, a, b) else (a, b, c)
/-- the triangle beyond an edge -/
def nextM (M : MeshM) (t : Tri3) (i : Int) : Option Tri3 := (M.ap (corT t (i + 1)) (corT t i)).map fun c => ownT (corT t (i + 1)) (corT t i) c
/-- one step of the walk -/
def goStep (M : MeshM) (p : Pt) (k : Tri3 → Option Plc) (t : Tri3) : Option Plc := match outM M p t with
  | none => some (placeM M p t)
  | some i => (nextM M t i).bind k
/-- the walk, of so many steps -/
def goM (M : MeshM) (p : Pt) : Nat → Tri3 → Option Plc
  | 0 => fun _ => none
  | n + 1 => goStep M p (goM M p n)
def scanStep (M : MeshM) (p : Pt) (t : Tri3) (r : Plc) : Plc := match outM M p t with
  | none => placeM M p t
  | some _ => r
def scanM (M : MeshM) (p : Pt) (L : List Tri3) : Plc := L.foldr (scanStep M p) ⟨4, 0, 0, 0⟩
def findL (M : MeshM) (p : Pt) (s : Nat) (L : List Tri3) : Plc :=
  if L.length = 0 then ⟨4, 0, 0, 0⟩ else match goM M p L.length (L.getD (s % L.length) (0, 0, 0)) with
  | some x => x
  | none => scanM M p L
def findM (M : MeshM) (p : Pt) (s : Nat) : Plc := findL M p s (trisL M.ap M.P.length)

theorem goM_succ (M : MeshM) (p : Pt) (n : Nat) (t : Tri3) : goM M p (n + 1) t = goStep M p (goM M p n) t := rfl
theorem goStep_none {M : MeshM} {p : Pt} {k : Tri3 → Option Plc} {t : Tri3} (h : outM M p t = none) : goStep M p k t = some (placeM M p t) := by unfold goStep; rw [h]
theorem goStep_some {M : MeshM} {p : Pt} {k : Tri3 → Option Plc} {t : Tri3} {i : Int} (h : outM M p t = some i) : goStep M p k t = (nextM M t i).bind k := by unfold goStep; rw [h]
theorem goM_found {M : MeshM} {p : Pt} {n : Nat} {t : Tri3} (h : outM M p t = none) : goM M p (n + 1) t = some (placeM M p t) := by rw [goM_succ, goStep_none h]
theorem goM_stop {M : MeshM} {p : Pt} {n : Nat} {t : Tri3} {i : Int} (h : outM M p t = some i) (h2 : M.ap (corT t (i + 1)) (corT t i) = none) : goM M p (n + 1) t = none := by
  rw [goM_succ, goStep_some h]; unfold nextM; rw [h2]; rfl
theorem goM_on {M : MeshM} {p : Pt} {n : Nat} {t : Tri3} {i c : Int} (h : outM M p t = some i) (h2 : M.ap (corT t (i + 1)) (corT t i) = some c) : goM M p (n + 1) t = goM M p n (ownT (corT t (i + 1)) (corT t i) c) := by
  rw [goM_succ, goStep_some h]; unfold nextM; rw [h2]; rfl
theorem scanM_cons (M : MeshM) (p : Pt) (t : Tri3) (r : List Tri3) : scanM M p (t :: r) = scanStep M p t (scanM M p r) := rfl
theorem scanM_here {M : MeshM} {p : Pt} {t : Tri3} {r : List Tri3} (h : outM M p t = none) : scanM M p (t :: r) = placeM M p t := by rw [scanM_cons]; unfold scanStep; rw [h]
theorem scanM_on {M : MeshM} {p : Pt} {t : Tri3} {r : List Tri3} {i : Int} (h : outM M p t = some i) : scanM M p (t :: r) = scanM M p r := by rw [scanM_cons]; unfold scanStep; rw [h]
theorem outM_range {M : MeshM} {p : Pt} {t : Tri3} {i : Int} (h : outM M p t = some i) : i = 0 ∨ i = 1 ∨ i = 2 := by
  unfold outM at h
  split at h
  · cases h; simp
  · split at h
    · cases h; simp
    · split at h
      · cases h; simp
      · cases h

/-- whatever the place: it is not outside -/
theorem placeM_in (M : MeshM) (p : Pt) (t : Tri3) : (placeM M p t).k ≠ 4 := by
  unfold placeM
  split
  · simp
  · split <;> simp
theorem goM_in {M : MeshM} {p : Pt} : ∀ {n : Nat} {t : Tri3} {x : Plc}, goM M p n t = some x → x.k ≠ 4
  | 0, _, _, h => by cases h
  | n + 1, t, x, h => by
    rw [goM_succ] at h
    cases e : outM M p t with
    | none => rw [goStep_none e] at h; cases h; exact placeM_in M p t
    | some i =>
      rw [goStep_some e] at h
      cases e2 : nextM M t i with
      | none => rw [e2] at h; cases h
      | some u => rw [e2] at h; exact goM_in h
theorem scanM_in {M : MeshM} {p : Pt} : ∀ {L : List Tri3}, (∃ t, t ∈ L ∧ outM M p t = none) → (scanM M p L).k ≠ 4
  | [], h => by obtain ⟨t, h, _⟩ := h; cases h
  | t :: r, h => by
    cases e : outM M p t with
    | none => rw [scanM_here e]; exact placeM_in M p t
    | some i =>
      rw [scanM_on e]
      refine scanM_in ?_
      obtain ⟨u, hu, he⟩ := h
      rcases List.mem_cons.1 hu with rfl | hu
      · rw [he] at e; cases e
      · exact ⟨u, hu, he⟩
theorem findL_in {M : MeshM} {p : Pt} {s : Nat} {L : List Tri3} (h : ∃ t, t ∈ L ∧ outM M p t = none) : (findL M p s L).k ≠ 4 := by
  unfold findL
  obtain ⟨t, ht, he⟩ := h
  have : 0 < L.length := List.length_pos_of_mem ht
  rw [if_neg (by omega)]
  split
  · rename_i x hx; exact goM_in hx
  · exact scanM_in ⟨t, ht, he⟩

end Go.Proofs.YtdoaniccefdkaaaGreatDoor

/- cmp.Compare at floats, cmp.Or; admit.hold, Cmp; walk.own. -/
namespace Go.Proofs.YtdoaniccefdkaaaGreatDoor
open Go.RowKit Tvf Go.Maps Go.WideMaps

theorem coordB_fin {x : Nat} (h64 : x < 2 ^ 64) (h : coordB x = true) : fin x := by
  unfold coordB at h
  simp only [Bool.and_eq_true] at h
  exact fin_of_le h64 h.1

theorem isNaN_walk (x : Nat) (hx : fin x) (w : World) : Calls Tryz.prog 268 #[.float .f64 x] w fun r w' => r = .returned (.bool false) ∧ w' = w := by
  have h : fne x x = false := by rw [fne_val hx hx]; simp
  go_enter Tryz.func268, Tryz.ntmps268
  go_wp2
  go_ret
  exact ⟨rfl, rfl⟩

set_option maxRecDepth 100000 in
set_option maxHeartbeats 1000000 in
theorem fcmp_walk (x y : Nat) (hx : fin x) (hy : fin y) (w : World) : Calls Tryz.prog 206 #[.float .f64 x, .float .f64 y] w fun r w' => r = .returned (.int .i64 (sgnI (fval x - fval y))) ∧ w' = w := by
  have HX := Lib.hid (isNaN_walk x hx)
  have HY := Lib.hid (isNaN_walk y hy)
  have e1 : flt x y = decide (fval x < fval y) := flt_val hx hy
  have e2 : fgt x y = decide (fval y < fval x) := fgt_val hx hy
  clear hx hy
  rcases Int.lt_trichotomy (fval x) (fval y) with h | h | h
  · have l1 : flt x y = true := by rw [e1]; simpa using h
    rw [sgnI_lt h]
    clear e1 e2 h
    go_enter Tryz.func206, Tryz.ntmps206
    go_wp2_with (go_at_call 268; (first | (with_reducible refine (HX.out _).mono ?_) | (with_reducible refine (HY.out _).mono ?_)); rintro r w1 ⟨rfl, rfl⟩)
    go_ret
    exact ⟨rfl, rfl⟩
  · have l1 : flt x y = false := by rw [e1]; simp; omega
    have l2 : fgt x y = false := by rw [e2]; simp; omega
    rw [sgnI_eq h]
    clear e1 e2 h
    go_enter Tryz.func206, Tryz.ntmps206
    go_wp2_with (go_at_call 268; (first | (with_reducible refine (HX.out _).mono ?_) | (with_reducible refine (HY.out _).mono ?_)); rintro r w1 ⟨rfl, rfl⟩)
    go_ret
    exact ⟨rfl, rfl⟩
  · have l1 : flt x y = false := by rw [e1]; simp; omega
    have l2 : fgt x y = true := by rw [e2]; simpa using h
    rw [sgnI_gt h]
    clear e1 e2 h
    go_enter Tryz.func206, Tryz.ntmps206
    go_wp2_with (go_at_call 268; (first | (with_reducible refine (HX.out _).mono ?_) | (with_reducible refine (HY.out _).mono ?_)); rintro r w1 ⟨rfl, rfl⟩)
    go_ret
    exact ⟨rfl, rfl⟩

set_option maxRecDepth 100000 in
set_option maxHeartbeats 1000000 in
theorem or_walk (a b : Int) (g : Nat) (w : World) (h0 : w.cell? ⟨g, 0, none⟩ = some (.int .i64 a)) (h1 : w.cell? ⟨g, 1, none⟩ = some (.int .i64 b)) :
    Calls Tryz.prog 205 #[.slice (some ⟨g, 0, none⟩) 2 2] w fun r w' => r = .returned (.int .i64 (if a = 0 then b else a)) ∧ w' = w := by
  obtain ⟨R, hR⟩ : ∃ R : Int, Hid ((if a = 0 then b else a) = R) := ⟨_, rfl⟩
  rw [hR.out]
  go_enter Tryz.func205, Tryz.ntmps205
  go_wp2
  go_loop [8] (fun s8 => ∃ k : Nat, s8 = .int .i64 k ∧ Hid (k ≤ 2 ∧ (1 ≤ k → a = 0) ∧ (2 ≤ k → b = 0))) (fun s8 => (2 - intOf s8).toNat)
  case atStart => exact ⟨0, rfl, by unfold Hid; omega⟩
  case round =>
    obtain ⟨k, rfl, HK⟩ := hrel
    have h3 : k = 0 ∨ k = 1 ∨ k = 2 := by have := HK.out; omega
    rcases h3 with rfl | rfl | rfl
    · by_cases ha : a = 0
      · go_wp2
        go_round
        case rel => exact ⟨1, rfl, by unfold Hid; omega⟩
        case measure => decide
      · have HR : Hid (a = R) := by have := hR.out; rw [if_neg ha] at this; exact this
        go_wp2
        go_ret
        exact ⟨by rw [← HR.out]; rfl, rfl⟩
    · have HA : Hid (a = 0) := HK.out.2.1 (by omega)
      by_cases hb : b = 0
      · go_wp2
        go_round
        case rel => exact ⟨2, rfl, by have := HA.out; unfold Hid; omega⟩
        case measure => decide
      · have HR : Hid (b = R) := by have := hR.out; rw [if_pos HA.out] at this; exact this
        go_wp2
        go_ret
        exact ⟨by rw [← HR.out]; rfl, rfl⟩
    · have HR : Hid (0 = R) := by have := hR.out; rw [if_pos (HK.out.2.1 (by omega)), HK.out.2.2 (by omega)] at this; exact this
      go_wp2
      go_ret
      exact ⟨by rw [← HR.out]; rfl, rfl⟩

theorem hold_keep {w W W' : World} {p q : Pt} (hb : Below W.heap.size W W') (h : W.cell? ⟨w.heap.size, 0, none⟩ = some (.float .f64 p.1) ∧ W.cell? ⟨w.heap.size, 1, none⟩ = some (.float .f64 p.2) ∧ W.cell? ⟨w.heap.size + 1, 0, none⟩ = some (.float .f64 q.1) ∧ W.cell? ⟨w.heap.size + 1, 1, none⟩ = some (.float .f64 q.2) ∧ Below w.heap.size w W) :
    W'.cell? ⟨w.heap.size, 0, none⟩ = some (.float .f64 p.1) ∧ W'.cell? ⟨w.heap.size, 1, none⟩ = some (.float .f64 p.2) ∧ W'.cell? ⟨w.heap.size + 1, 0, none⟩ = some (.float .f64 q.1) ∧ W'.cell? ⟨w.heap.size + 1, 1, none⟩ = some (.float .f64 q.2) ∧ Below w.heap.size w W' :=
  ⟨cell_keep h.1 hb, cell_keep h.2.1 hb, cell_keep h.2.2.1 hb, cell_keep h.2.2.2.1 hb, h.2.2.2.2.trans (hb.mono h.2.2.2.2.size)⟩

set_option maxRecDepth 100000 in
set_option maxHeartbeats 2000000 in
theorem hold_walk (p q : Pt) (hp1 : fin p.1) (hp2 : fin p.2) (hq1 : fin q.1) (hq2 : fin q.2) (w : World) :
    Calls Tryz.prog 165 #[V p, V q] w fun r w' => r = .returned (.int .i64 (holdI p q)) ∧ Below w.heap.size w w' := by
  have HX := Lib.hid (fcmp_walk p.1 q.1 hp1 hq1)
  have HY := Lib.hid (fcmp_walk p.2 q.2 hp2 hq2)
  have HO := Lib.hid or_walk
  unfold holdI
  clear hp1 hp2 hq1 hq2
  generalize sgnI (fval p.1 - fval q.1) = a at *
  generalize sgnI (fval p.2 - fval q.2) = b at *
  have HO2 := Lib.hid (fun g W => HO.out a b g W)
  clear HO
  generalize (if a = 0 then b else a) = R at *
  unfold V
  have n0 : ((w.alloc (.cells #[.float .f64 p.1, .float .f64 p.2] 52)).alloc (.cells #[.float .f64 q.1, .float .f64 q.2] 52)).cell? ⟨w.heap.size, 0, none⟩ = some (.float .f64 p.1) ∧ ((w.alloc (.cells #[.float .f64 p.1, .float .f64 p.2] 52)).alloc (.cells #[.float .f64 q.1, .float .f64 q.2] 52)).cell? ⟨w.heap.size, 1, none⟩ = some (.float .f64 p.2) ∧ ((w.alloc (.cells #[.float .f64 p.1, .float .f64 p.2] 52)).alloc (.cells #[.float .f64 q.1, .float .f64 q.2] 52)).cell? ⟨w.heap.size + 1, 0, none⟩ = some (.float .f64 q.1) ∧ ((w.alloc (.cells #[.float .f64 p.1, .float .f64 p.2] 52)).alloc (.cells #[.float .f64 q.1, .float .f64 q.2] 52)).cell? ⟨w.heap.size + 1, 1, none⟩ = some (.float .f64 q.2) ∧ Below w.heap.size w ((w.alloc (.cells #[.float .f64 p.1, .float .f64 p.2] 52)).alloc (.cells #[.float .f64 q.1, .float .f64 q.2] 52)) := by
    have e1 : (w.alloc (.cells #[.float .f64 p.1, .float .f64 p.2] 52)).heap.size = w.heap.size + 1 := by simp
    have h1 := new2 w (.float .f64 p.1) (.float .f64 p.2) 52
    have h2 := new2 (w.alloc (.cells #[.float .f64 p.1, .float .f64 p.2] 52)) (.float .f64 q.1) (.float .f64 q.2) 52
    rw [e1] at h2
    exact ⟨cell_al h1.1 _, cell_al h1.2 _, h2.1, h2.2, ((Below.refl _ w).alloc (Nat.le_refl _) _).alloc (by simp) _⟩
  go_enter Tryz.func165, Tryz.ntmps165
  go_wp2
  generalize ((w.alloc (.cells #[.float .f64 p.1, .float .f64 p.2] 52)).alloc (.cells #[.float .f64 q.1, .float .f64 q.2] 52)) = W at *
  have n1 := hold_keep (p := p) (q := q) (Below.refl W.heap.size W).drew n0
  have n2 := fun o => hold_keep (p := p) (q := q) ((Below.refl W.drew.heap.size W.drew).alloc (Nat.le_refl _) o) n1
  go_region_held3 (fun w' => w'.cell? ⟨w.heap.size, 0, none⟩ = some (.float .f64 p.1) ∧ w'.cell? ⟨w.heap.size, 1, none⟩ = some (.float .f64 p.2) ∧ w'.cell? ⟨w.heap.size + 1, 0, none⟩ = some (.float .f64 q.1) ∧ w'.cell? ⟨w.heap.size + 1, 1, none⟩ = some (.float .f64 q.2) ∧ Below w.heap.size w w') (first | (with_reducible exact n1) | (with_reducible exact n2 _) | (exact n2 _))
    (first
      | (go_at_call 206; with_reducible refine (HX.out _).mono ?_; rintro r w1 ⟨rfl, rfl⟩)
      | (go_at_call 206; with_reducible refine (HY.out _).mono ?_; rintro r w1 ⟨rfl, rfl⟩)
      | (go_at_call 205; refine (HO2.out _ (W.alloc (.cells #[.int .i64 a, .int .i64 b] 3)).drew (new2 W (.int .i64 a) (.int .i64 b) 3).1 (new2 W (.int .i64 a) (.int .i64 b) 3).2).mono ?_; rintro r w1 ⟨rfl, rfl⟩))
  go_wp2
  go_ret
  exact ⟨rfl, (n2 _).2.2.2.2⟩

set_option maxRecDepth 100000 in
set_option maxHeartbeats 2000000 in
theorem acmp_walk (p q : Pt) (hp : pt64 p) (hq : pt64 q) (w : World) :
    Calls Tryz.prog 120 #[V p, V q] w fun r w' => r = .returned (.int .i64 (cmpI p q)) ∧ Below w.heap.size w w' := by
  have HP := Lib.hid (may_walk p hp)
  have HQ := Lib.hid (may_walk q hq)
  have HH : Hid (ptOK p = true → ptOK q = true → ∀ w, Calls Tryz.prog 165 #[V p, V q] w fun r w' => r = .returned (.int .i64 (holdI p q)) ∧ Below w.heap.size w w') := fun h1 h2 w => by
    unfold ptOK at h1 h2
    simp only [Bool.and_eq_true] at h1 h2
    exact hold_walk p q (coordB_fin hp.1 h1.1) (coordB_fin hp.2 h1.2) (coordB_fin hq.1 h2.1) (coordB_fin hq.2 h2.2) w
  unfold cmpI
  clear hp hq
  generalize holdI p q = H at *
  unfold V at *
  have b0 : Below w.heap.size w ((w.alloc (.cells #[.float .f64 p.1, .float .f64 p.2] 52)).alloc (.cells #[.float .f64 q.1, .float .f64 q.2] 52)) := ((Below.refl _ w).alloc (Nat.le_refl _) _).alloc (by simp) _
  have e1 : (w.alloc (.cells #[.float .f64 p.1, .float .f64 p.2] 52)).heap.size = w.heap.size + 1 := by simp
  have h1 := new2 w (.float .f64 p.1) (.float .f64 p.2) 52
  have h2 := new2 (w.alloc (.cells #[.float .f64 p.1, .float .f64 p.2] 52)) (.float .f64 q.1) (.float .f64 q.2) 52
  rw [e1] at h2
  have q1 := cell_al h1.1 (.cells #[.float .f64 q.1, .float .f64 q.2] 52)
  have q2 := cell_al h1.2 (.cells #[.float .f64 q.1, .float .f64 q.2] 52)
  obtain ⟨q3, q4⟩ := h2
  clear h1 e1
  generalize ptOK p = op at *
  generalize ptOK q = oq at *
  have h3 : (op = false) ∨ (op = true ∧ oq = false) ∨ (op = true ∧ oq = true) := by cases op <;> cases oq <;> simp
  rcases h3 with rfl | ⟨rfl, rfl⟩ | ⟨rfl, rfl⟩
  all_goals
    go_enter Tryz.func120, Tryz.ntmps120
    go_wp2_with (first
      | (go_at_call 95; with_reducible refine (HP.out _).mono ?_; rintro r w1 ⟨rfl, hb1⟩; have b1 := b0.trans (hb1.mono b0.size); have r1 := cell_keep q1 hb1; have r2 := cell_keep q2 hb1; have r3 := cell_keep q3 hb1; have r4 := cell_keep q4 hb1; clear q1 q2 q3 q4 hb1)
      | (go_at_call 95; with_reducible refine (HQ.out _).mono ?_; rintro r w2 ⟨rfl, hb2⟩; have b2 := b1.trans (hb2.mono b1.size); have s1 := cell_keep r1 hb2; have s2 := cell_keep r2 hb2; have s3 := cell_keep r3 hb2; have s4 := cell_keep r4 hb2; clear r1 r2 r3 r4 hb2)
      | (go_at_call 165; with_reducible refine (HH.out (by first | trivial | rfl) (by first | trivial | rfl) _).mono ?_; rintro r w3 ⟨rfl, hb3⟩; have b3 := b2.trans (hb3.mono b2.size)))
    go_ret
    first | exact ⟨rfl, b3⟩ | exact ⟨rfl, b2⟩ | exact ⟨rfl, b1⟩

set_option maxRecDepth 100000 in
set_option maxHeartbeats 1000000 in
theorem own3_walk (a b c : Int) (w : World) : Calls Tryz.prog 114 #[.int .i64 a, .int .i64 b, .int .i64 c] w fun r w' => r = .returned (encTV (ownT a b c)) ∧ Below w.heap.size w w' := by
  have hR : ownT a b c = if (decide (b < a) && decide (b < c)) = true then (b, c, a) else if (decide (c < a) && decide (c < b)) = true then (c, a, b) else (a, b, c) := by unfold ownT; simp
  rw [hR]
  clear hR
  cases h1 : decide (b < a) <;> cases h2 : decide (b < c) <;> cases h3 : decide (c < a) <;> cases h4 : decide (c < b)
  all_goals
    go_enter Tryz.func114, Tryz.ntmps114
    go_wp2
    go_returns
    exact ⟨rfl, (Below.refl _ _).alloc (Nat.le_refl _) _⟩

end Go.Proofs.YtdoaniccefdkaaaGreatDoor

/- walk.side; boxes of cells. -/
namespace Go.Proofs.YtdoaniccefdkaaaGreatDoor
open Go.RowKit Tvf Go.Maps Go.WideMaps

/-- a box, whole -/
def BoxN (T : TypeId) (W : World) (b : Nat) (xs : Array Value) : Prop := W.heap[b]? = some (.cells xs T)
section
variable {T : TypeId} {W W' : World} {b B : Nat} {xs : Array Value}
theorem BoxN.c (h : BoxN T W b xs) (i : Nat) : W.cell? ⟨b, i, none⟩ = xs[i]? := by
  unfold BoxN at h
  simp [World.cell?, h]
theorem BoxN.fz (h : BoxN T W b xs) (i : Nat) : W.frozen? ⟨b, i, none⟩ = false := by
  unfold BoxN at h
  simp [World.frozen?, h]
theorem BoxN.lt (h : BoxN T W b xs) : b < W.heap.size := by
  unfold BoxN at h
  exact (Array.getElem?_eq_some_iff.1 h).1
theorem BoxN.low (h : BoxN T W b xs) (hb : Below B W W') (hl : b < B) : BoxN T W' b xs := (hb.block b hl).trans h
theorem BoxN.below (h : BoxN T W b xs) (hb : Below W.heap.size W W') : BoxN T W' b xs := h.low hb h.lt
theorem BoxN.al (h : BoxN T W b xs) (o : Obj) : BoxN T (W.alloc o) b xs := h.below ((Below.refl _ _).alloc (Nat.le_refl _) o)
theorem BoxN.new (W : World) (xs : Array Value) (T : TypeId) : BoxN T (W.alloc (.cells xs T)) W.heap.size xs := by
  show (W.heap.push _)[W.heap.size]? = _
  simp
theorem BoxN.far {p : Addr} (h : BoxN T W b xs) (hp : b ≠ p.block) (v : Value) : BoxN T (W.setCell p v) b xs := (Below.heap_setCell W p v b hp).trans h
theorem BoxN.set (h : BoxN T W b xs) (i : Nat) (v : Value) (hi : i < xs.size) : BoxN T (W.setCell ⟨b, i, none⟩ v) b (xs.set i v hi) := by
  unfold BoxN at h ⊢
  simp [World.setCell, Array.getElem?_modify, h, Array.setIfInBounds, hi]
end

set_option maxRecDepth 100000 in
set_option maxHeartbeats 2000000 in
theorem side_walk {w : World} {mb n : Nat} {M : MeshM} {F : Nat → Prop} (h : MeshAt w mb n M F) (h64 : ∀ p, p ∈ M.P → pt64 p) (p : Pt) (hp : pt64 p) (a b : Int) :
    Calls Tryz.prog 162 #[.pointer (some ⟨mb, 0, none⟩), .int .i64 a, .int .i64 b, V p] w fun r w' => r = .returned (.int .i64 (sdM M p a b)) ∧ Below w.heap.size w w' := by
  have HA := Lib.hid (fun W (hb : Below w.heap.size w W) => point_walk (h.below hb) a)
  have HB := Lib.hid (fun W (hb : Below w.heap.size w W) => point_walk (h.below hb) b)
  have HS := Lib.hid (fun W => orient_sign (ptAt M a) (ptAt M b) p (by
    intro q hq
    simp only [List.mem_cons, List.not_mem_nil, or_false] at hq
    rcases hq with rfl | rfl | rfl
    · exact ptAt_64 h64 a
    · exact ptAt_64 h64 b
    · exact hp) W)
  unfold sdM
  clear h h64 hp
  unfold V at *
  generalize signI (ptAt M a) (ptAt M b) p = s at *
  generalize ptAt M a = pa at *
  generalize ptAt M b = pb at *
  generalize hasM M a = ka at *
  generalize hasM M b = kb at *
  have b0 : Below w.heap.size w (w.alloc (.cells #[.float .f64 p.1, .float .f64 p.2] 52)) := (Below.refl _ _).alloc (Nat.le_refl _) _
  have q := new2 w (.float .f64 p.1) (.float .f64 p.2) 52
  go_enter Tryz.func162, Tryz.ntmps162
  go_wp2_with (first
    | (go_at_call 48; with_reducible refine (HA.out _ b0).mono ?_; rintro r w1 ⟨rfl, hb1⟩; have b1 := b0.trans (hb1.mono b0.size); have p1 := cell_keep q.1 hb1; have p2 := cell_keep q.2 hb1)
    | (go_at_call 48; with_reducible refine (HB.out _ (b1.alloc b1.size _)).mono ?_; rintro r w2 ⟨rfl, hb2⟩; have b2 := (b1.alloc b1.size (.cells #[.float .f64 pa.1, .float .f64 pa.2] 52)).trans (hb2.mono (Nat.le_trans b1.size (by simp))); have k1 := cell_al (cell_keep (new2 w1 (.float .f64 pa.1) (.float .f64 pa.2) 52).1 hb2); have k2 := cell_al (cell_keep (new2 w1 (.float .f64 pa.1) (.float .f64 pa.2) 52).2 hb2); have k3 := cell_al (cell_keep (cell_al p1 (.cells #[.float .f64 pa.1, .float .f64 pa.2] 52)) hb2); have k4 := cell_al (cell_keep (cell_al p2 (.cells #[.float .f64 pa.1, .float .f64 pa.2] 52)) hb2))
    | (go_at_call 90; with_reducible refine (HS.out _).mono ?_; rintro r w4 ⟨rfl, hb4⟩))
  go_ret
  exact ⟨rfl, (b2.alloc b2.size _).trans (hb4.mono (Nat.le_trans b2.size (by simp)))⟩

end Go.Proofs.YtdoaniccefdkaaaGreatDoor
