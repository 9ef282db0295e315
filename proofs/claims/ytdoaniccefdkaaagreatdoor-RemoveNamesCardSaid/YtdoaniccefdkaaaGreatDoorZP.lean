/- Part of the proof. No conditions. -/
import Derived.Test.YtdoaniccefdkaaaGreatDoorZF
import Derived.Test.YtdoaniccefdkaaaGreatDoorZG
import Derived.Test.YtdoaniccefdkaaaGreatDoorZN
import Derived.Test.YtdoaniccefdkaaaGreatDoorZO

set_option linter.all false
/- remove.Point: what its loops hold. -/
namespace Go.Proofs.YtdoaniccefdkaaaGreatDoor
open Go.RowKit Tvf Go.Maps Go.WideMaps

/-- Point's boxes: the mesh and the number -/
def PBox (W : World) (bm bv mb : Nat) (v : Int) : Prop := W.cell? ⟨bm, 0, none⟩ = some (.pointer (some ⟨mb, 0, none⟩)) ∧ W.cell? ⟨bv, 0, none⟩ = some (.int .i64 v)
theorem PBox.o {W : World} {bm bv mb : Nat} {v : Int} (h : PBox W bm bv mb v) : W.cell? ⟨bm, 0, none⟩ = some (.pointer (some ⟨mb, 0, none⟩)) ∧ W.cell? ⟨bv, 0, none⟩ = some (.int .i64 v) := h
theorem PBox.i {W : World} {bm bv mb : Nat} {v : Int} (h1 : W.cell? ⟨bm, 0, none⟩ = some (.pointer (some ⟨mb, 0, none⟩))) (h2 : W.cell? ⟨bv, 0, none⟩ = some (.int .i64 v)) : PBox W bm bv mb v := ⟨h1, h2⟩
theorem PBox.below {W W' : World} {bm bv mb : Nat} {v : Int} (h : PBox W bm bv mb v) (hb : Below W.heap.size W W') : PBox W' bm bv mb v := ⟨cell_keep h.1 hb, cell_keep h.2 hb⟩
theorem PBox.stay {W W' : World} {G : Nat → Prop} {bm bv mb : Nat} {v : Int} (h : PBox W bm bv mb v) (hs : Stay G W W') (h1 : ¬G bm) (h2 : ¬G bv) : PBox W' bm bv mb v := ⟨cell_stay h.1 hs h1, cell_stay h.2 hs h2⟩
theorem pbox_new (w : World) (mb : Nat) (v : Int) (T T' : TypeId) : PBox ((w.alloc (.cells #[.pointer (some ⟨mb, 0, none⟩)] T)).alloc (.cells #[.int .i64 v] T')) w.heap.size (w.heap.size + 1) mb v := by
  refine ⟨cell_al (by rw [World.cell?_alloc_at _ _ _ _ rfl]; rfl) _, ?_⟩
  have : w.heap.size + 1 = (w.alloc (.cells #[.pointer (some ⟨mb, 0, none⟩)] T)).heap.size := by simp
  rw [this, World.cell?_alloc_at _ _ _ _ rfl]; rfl

set_option maxRecDepth 100000 in
set_option maxHeartbeats 1000000 in
theorem point1_walk {w : World} {mb n : Nat} {M : MeshM} {F : Nat → Prop} (h : MeshAt w mb n M F) {bm bv : Nat} {v : Int} (hv : i64ok v) (hp : PBox w bm bv mb v) {b : Int} (hb : i64ok b) :
    Calls Tryz.prog 132 #[.int .i64 b, .pointer (some ⟨bm, 0, none⟩), .pointer (some ⟨bv, 0, none⟩)] w fun r w' => r = .returned (.bool (fixB M v b)) ∧ Below w.heap.size w w' := by
  have HF := Lib.hid (fixed_walk h hv hb)
  obtain ⟨c1, c2⟩ := hp
  unfold fixB
  clear h hv hb
  generalize (M.fx (minI v b) (maxI v b)).getD 0 = x at *
  generalize (M.fx (minI v b) (maxI v b)).isSome = q at *
  go_enter Tryz.func132, Tryz.ntmps132
  go_wp2_with (go_at_call 22; with_reducible refine HF.out.mono ?_; rintro r w1 ⟨rfl, hb1⟩)
  go_ret
  exact ⟨rfl, hb1⟩
theorem enters_point1 : ∀ args w, (callFunc 132 args).run Tryz.prog w = .ok (.enter 132 args) w := enters_of Tryz.func132 (by kernel_rfl) rfl

/-! ### the edges that are gathered beside a mesh -/
structure Edg (B : Nat) (w : World) (F : Nat → Prop) (v7 : Value) (S : List (Int × Int)) : Prop where
  s : w.ownsRow B 62 2 v7 S.length (cellsK encP S)
  offs : ∀ b, v7.ownBlock = some b → ¬F b
  flt : ∀ i, F i → i < w.heap.size
  base : B ≤ w.heap.size
section
variable {B : Nat} {w w' : World} {F : Nat → Prop} {v7 : Value} {S : List (Int × Int)}
theorem Edg.same (h : Edg B w F v7 S) (hs : w.heap.size ≤ w'.heap.size) (h7 : ∀ b, v7.ownBlock = some b → w'.heap[b]? = w.heap[b]?) : Edg B w' F v7 S :=
  ⟨ownsRow_same h.s h7, h.offs, fun i hi => Nat.lt_of_lt_of_le (h.flt i hi) hs, Nat.le_trans h.base hs⟩
theorem Edg.below (h : Edg B w F v7 S) (hb : Below w.heap.size w w') : Edg B w' F v7 S := h.same hb.size (fun b hb' => hb.block b (h.s.lt b hb').2)
theorem Edg.al (h : Edg B w F v7 S) (o : Obj) : Edg B (w.alloc o) F v7 S := h.below ((Below.refl _ _).alloc (Nat.le_refl _) o)
theorem Edg.drew (h : Edg B w F v7 S) : Edg B w.drew F v7 S := h.below (Below.refl _ _).drew
theorem Edg.turn (h : Edg B w F v7 S) {G : Nat → Prop} (hs : Stay F w w') (hG : ∀ i, G i → F i ∨ w.heap.size ≤ i) (hlt : ∀ i, G i → i < w'.heap.size) : Edg B w' G v7 S := by
  have h1 := h.same hs.size (fun b hb' => hs.block b (h.s.lt b hb').2 (h.offs b hb'))
  exact ⟨h1.s, fun b hb e => (hG b e).elim (h.offs b hb) (fun e => by have := (h.s.lt b hb).2; omega), hlt, h1.base⟩
theorem Edg.nil (hlt : ∀ i, F i → i < w.heap.size) : Edg w.heap.size w F (.slice none 0 0) [] := ⟨World.ownsRow_nil _ _ _ _, fun b hb => by simp [Value.ownBlock] at hb, hlt, Nat.le_refl _⟩

theorem encP3_one (f1 f2 f3 : Int × Int) : ∀ u ∈ encP f1 ++ encP f2 ++ encP f3, u.oneCell' = true := by
  intro u hu
  rcases List.mem_append.1 hu with hu | hu
  · rcases List.mem_append.1 hu with hu | hu
    · exact encP_one f1 u hu
    · exact encP_one f2 u hu
  · exact encP_one f3 u hu
theorem Edg.push3 {f1 f2 f3 : Int × Int} {a : Addr} {k : Nat} (h : Edg B w F v7 S) (hx : ∀ j u, (encP f1 ++ encP f2 ++ encP f3)[j]? = some u → w.cell? (a.add j) = some u) (hl : S.length ≤ 1000000000) (ty : TypeId) :
    ∃ g' c' w', (Builtin.append_ #[78, 78] ty #[v7, .slice (some a) 3 k]).run Tryz.prog w = .ok (.slice (some ⟨g', 0, none⟩) (S.length + 3) c') w' ∧ Hid (Edg B w' F (.slice (some ⟨g', 0, none⟩) (S.length + 3) c') (S ++ [f1, f2, f3])) ∧ Hid (Below B w w' ∧ ∀ i, F i → w'.heap[i]? = w.heap[i]?) := by
  obtain ⟨i0, hi, hz0, hz1, hz2⟩ := info_parts infoPair
  have he : cellsK encP (S ++ [f1, f2, f3]) = cellsK encP S ++ (encP f1 ++ encP f2 ++ encP f3) := by rw [cellsK_append]; rfl
  obtain ⟨g', c', w', hrun, ho', hg, hloc, hlt⟩ := run_append_lies (P := Tryz.prog) w 78 ty B 62 i0 (.agg #[.int .i64 0, .int .i64 0]) 2 16 Tryz.underlying78 hi hz0 hz1 hz2 rfl (by decide) v7 S.length (cellsK encP S) h.s a 3 k (encP f1 ++ encP f2 ++ encP f3) rfl hx (encP3_one f1 f2 f3) (by decide) (by unfold maxLen; omega) (by omega) h.base w.heap.size rfl
  refine ⟨g', c', w', hrun, ⟨?_, ?_, fun i hi => Nat.lt_of_lt_of_le (h.flt i hi) hg.size, Nat.le_trans h.base hg.size⟩, ⟨hg.os, hg.tape, hg.output, hg.size, fun i hi => hg.block i (Nat.lt_of_lt_of_le hi h.base) (fun e => by have := (h.s.lt i e.symm).1; omega)⟩, fun i hi => hg.block i (h.flt i hi) (fun e => h.offs i e.symm hi)⟩
  · rw [he, List.length_append]; exact ho'
  · intro b hb
    simp [Value.ownBlock] at hb
    subst hb
    rcases hloc with e | rfl
    · exact h.offs _ e
    · intro e; have := h.flt _ e; omega
end

end Go.Proofs.YtdoaniccefdkaaaGreatDoor

/- The meshes of the examples in RemoveNames, plainly. -/
namespace Go.Proofs.YtdoaniccefdkaaaGreatDoor
open Go.RowKit Tvf

theorem sort_is {l s : List Int} (h1 : s.Pairwise (· ≤ ·)) (h2 : l.Perm s) : sortL l = s := by
  refine List.Perm.eq_of_pairwise (le := fun x y : Int => x ≤ y) (fun a b _ _ h1 h2 => by omega) ?_ h1 ((List.mergeSort_perm _ _).trans h2)
  have := List.pairwise_mergeSort (le := fun x y : Int => decide (x ≤ y)) (fun a b c h1 h2 => by simp at *; omega) (fun a b => by simp; omega) l
  unfold sortL
  exact this.imp fun h => by simpa using h
theorem spokes_is {M : MeshM} {a : Int} {r s t : List Int} (h1 : rawOf M.ap a (M.sp a) = r) (h2 : s.Pairwise (· ≤ ·)) (h3 : r.Perm s) (h4 : Lib.compact s = t) : spokesL M a = t := by
  unfold spokesL; rw [h1, sort_is h2 h3, h4]
theorem ring_is {M : MeshM} {v : Int} {s t : List Int} (h : spokesL M v = s) (h2 : 3 ≤ s.length) (h3 : ringGo M v s.length s.length [s.getD 0 0] = t) : ringR M v = t := by
  unfold ringR; rw [h, if_neg (by omega), h3]

def Fm9 : Nat := 13844628204490326016
def exP : List Pt := [(F0, F0), (F4, F0), (F4, F4), (F0, F4), (F1, F2)]
def xwP : List Pt := [(F0, F0), (F4, F0), (F4, F4), (F0, F4), (F1, F2), (F9, Fm9)]
def xoP : List Pt := [(F0, F0), (F4, F0), (F0, F4), (F1, F1)]
theorem exP_len : exP.length = 5 := rfl
theorem xwP_len : xwP.length = 6 := rfl
theorem xoP_len : xoP.length = 4 := rfl
theorem ex_64 : ∀ p, p ∈ exP → pt64 p := pts64 (by decide)
theorem xw_64 : ∀ p, p ∈ xwP → pt64 p := pts64 (by decide)
theorem xo_64 : ∀ p, p ∈ xoP → pt64 p := pts64 (by decide)
theorem ex_all : allCode exP = 0 := by decide +kernel
theorem xw_all : allCode xwP = 0 := by decide +kernel
theorem xo_all : allCode xoP = 0 := by decide +kernel

/-! ### the point in the middle of a square -/
def exT : List Tri3 := [(0, 1, 4), (1, 2, 4), (2, 3, 4), (0, 4, 3)]
def exR : List Int := [0, 1, 2, 3]
def exE : List Tri3 := [(0, 1, 2), (0, 2, 3)]
def exA : MeshM := foldM (emptyM exP) exT
def exK : MeshM := killL exA (wheelL 4 exR)
def exB : MeshM := foldM exK exE
def okB : MeshM → List Tri3 → Bool
  | _, [] => true
  | M, t :: r => decide (makeCode M t.1 t.2.1 t.2.2 = 0) && okB (makeR M t.1 t.2.1 t.2.2) r
theorem allOk_of : ∀ (M : MeshM) (l : List Tri3), okB M l = true → allOk M l
  | _, [], _ => trivial
  | M, t :: r, h => by
    unfold okB at h
    rw [Bool.and_eq_true, decide_eq_true_eq] at h
    exact ⟨h.1, allOk_of _ r h.2⟩
theorem ex_ok : okB (emptyM exP) exT = true := by decide +kernel
theorem exA_P : exA.P = exP := by unfold exA; rw [foldM_P]; rfl
theorem exK_P : exK.P = exP := by unfold exK; rw [killL_P, exA_P]
theorem exB_P : exB.P = exP := by unfold exB; rw [foldM_P, exK_P]
theorem exA_sound : Sound exA := foldM_sound _ (emptyM_sound _)
theorem exK_sound : Sound exK := killL_sound exA_sound _
theorem exB_sound : Sound exB := foldM_sound _ exK_sound
theorem ex_sp4 : spokesL exA 4 = exR := spokes_is (r := [0, 1, 1, 2, 2, 3, 3, 0]) (s := [0, 0, 1, 1, 2, 2, 3, 3]) (by decide +kernel) (by decide) (by decide) (by decide +kernel)
theorem ex_sp0 : spokesL exA 0 = [1, 3, 4] := spokes_is (r := [1, 4, 4, 3]) (s := [1, 3, 4, 4]) (by decide +kernel) (by decide) (by decide) (by decide +kernel)
theorem ex_ring4 : ringR exA 4 = exR := ring_is ex_sp4 (by decide) (by decide +kernel)
theorem ex_ring0 : ringR exA 0 = [] := ring_is ex_sp0 (by decide) (by decide +kernel)
theorem ex_ears : earsL exA exR = exE := by decide +kernel
theorem ex_earAt : earAt exA exR = 0 := by decide +kernel
theorem ex_earsOk : earsOk exA exR := by
  intro k hk
  obtain rfl : k = 0 := by have : exR.length = 4 := rfl; omega
  show earAt exA exR < 4
  rw [ex_earAt]; decide
theorem ex_nofix : exR.any (fixB exA 4) = false := by decide +kernel
theorem exE_ok : okB exK exE = true := by decide +kernel
theorem exB_cnt : exB.cnt = 2 := by decide +kernel
theorem exB_bord : (bordL exB.ap exB.P.length).length = 4 := by decide +kernel
theorem exB_sp4 : spokesL exB 4 = [] := spokes_is (r := []) (s := []) (by decide +kernel) (by decide) (by decide) (by decide +kernel)

/-! ### an ear that may not be made -/
def xwT : List Tri3 := [(0, 1, 4), (1, 2, 4), (2, 3, 4), (0, 4, 3), (2, 0, 5)]
def xwA : MeshM := foldM (emptyM xwP) xwT
def xwK : MeshM := killL xwA (wheelL 4 exR)
def xwB : MeshM := foldM xwK (wheelL 4 exR)
theorem xw_ok : okB (emptyM xwP) xwT = true := by decide +kernel
theorem xwA_P : xwA.P = xwP := by unfold xwA; rw [foldM_P]; rfl
theorem xwK_P : xwK.P = xwP := by unfold xwK; rw [killL_P, xwA_P]
theorem xwB_P : xwB.P = xwP := by unfold xwB; rw [foldM_P, xwK_P]
theorem xwA_sound : Sound xwA := foldM_sound _ (emptyM_sound _)
theorem xwK_sound : Sound xwK := killL_sound xwA_sound _
theorem xwB_sound : Sound xwB := foldM_sound _ xwK_sound
theorem xw_sp4 : spokesL xwA 4 = exR := spokes_is (r := [0, 1, 1, 2, 2, 3, 3, 0]) (s := [0, 0, 1, 1, 2, 2, 3, 3]) (by decide +kernel) (by decide) (by decide) (by decide +kernel)
theorem xw_ring4 : ringR xwA 4 = exR := ring_is xw_sp4 (by decide) (by decide +kernel)
theorem xw_ears : earsL xwA exR = exE := by decide +kernel
theorem xw_earAt : earAt xwA exR = 0 := by decide +kernel
theorem xw_earsOk : earsOk xwA exR := by
  intro k hk
  obtain rfl : k = 0 := by have : exR.length = 4 := rfl; omega
  show earAt xwA exR < 4
  rw [xw_earAt]; decide
theorem xw_nofix : exR.any (fixB xwA 4) = false := by decide +kernel
theorem xw_bad : makeCode xwK 0 1 2 = 14 := by decide +kernel
theorem xw_tris : trisL xwB.ap xwB.P.length = trisL xwA.ap xwA.P.length := by decide +kernel

/-! ### a point in a triangle -/
def xoT : List Tri3 := [(0, 1, 3), (1, 2, 3), (0, 3, 2)]
def xoR : List Int := [0, 1, 2]
def xoA : MeshM := foldM (emptyM xoP) xoT
def xoK : MeshM := killL xoA (wheelL 3 xoR)
def xoB : MeshM := foldM xoK [(0, 1, 2)]
theorem xo_ok : okB (emptyM xoP) xoT = true := by decide +kernel
theorem xoA_P : xoA.P = xoP := by unfold xoA; rw [foldM_P]; rfl
theorem xoK_P : xoK.P = xoP := by unfold xoK; rw [killL_P, xoA_P]
theorem xoB_P : xoB.P = xoP := by unfold xoB; rw [foldM_P, xoK_P]
theorem xoA_sound : Sound xoA := foldM_sound _ (emptyM_sound _)
theorem xoK_sound : Sound xoK := killL_sound xoA_sound _
theorem xoB_sound : Sound xoB := foldM_sound _ xoK_sound
theorem xo_sp3 : spokesL xoA 3 = xoR := spokes_is (r := [0, 1, 1, 2, 2, 0]) (s := [0, 0, 1, 1, 2, 2]) (by decide +kernel) (by decide) (by decide) (by decide +kernel)
theorem xo_ring3 : ringR xoA 3 = xoR := ring_is xo_sp3 (by decide) (by decide +kernel)
theorem xo_ears : earsL xoA xoR = [(0, 1, 2)] := by decide +kernel
theorem xo_earsOk : earsOk xoA xoR := by
  intro k hk
  have : xoR.length = 3 := rfl
  omega
theorem xo_nofix : xoR.any (fixB xoA 3) = false := by decide +kernel
theorem xoE_ok : okB xoK [(0, 1, 2)] = true := by decide +kernel
theorem xo_tris : trisL xoB.ap xoB.P.length = [(0, 1, 2)] := by decide +kernel
theorem xo_quiet : [((0, 1) : Int × Int), (1, 2), (2, 0)].all (fun e => !(shB xoB e.1 e.2 && mayB xoB e.1 e.2)) = true := by decide +kernel

/-! ### an edge fixed, and loosed -/
def exX : MeshM := fxM exA (upE exA.fx (minI 1 4) (maxI 1 4) 3)
theorem exX_P : exX.P = exP := by unfold exX; rw [fxM_P]; exact exA_P
theorem fxM_snd {M : MeshM} (h : Sound M) (f : Int → Int → Option Int) : Sound (fxM M f) := ⟨h.rot, h.win, h.sgn, h.cnt, h.sp⟩
theorem exX_sound : Sound exX := fxM_snd exA_sound _
theorem spokes_fx (M : MeshM) (f : Int → Int → Option Int) (a : Int) : spokesL (fxM M f) a = spokesL M a := rfl
theorem exX_ring4 : ringR exX 4 = exR := ring_is (s := exR) (by unfold exX; rw [spokes_fx]; exact ex_sp4) (by decide) (by decide +kernel)
theorem exX_fix : exR.any (fixB exX 4) = true := by decide +kernel
theorem fx_loose (M : MeshM) (a b c : Int) (h : M.fx a b = none) : fxM (fxM M (upE M.fx a b c)) (delE (upE M.fx a b c) a b) = M := by
  have e : delE (upE M.fx a b c) a b = M.fx := by
    funext x y
    unfold delE upE
    by_cases hh : x = a ∧ y = b
    · rw [if_pos hh, hh.1, hh.2, h]
    · rw [if_neg hh, if_neg hh]
  rw [e]
  rfl
theorem ex_loose : fxM exX (delE exX.fx (minI 4 1) (maxI 4 1)) = exA := by
  have := fx_loose exA (minI 1 4) (maxI 1 4) 3 (by decide +kernel)
  exact this
theorem ex_fx14 : exX.fx (minI 4 1) (maxI 4 1) = some 3 := by decide +kernel
theorem ex_has1 : hasM exA 1 = true := by decide +kernel
theorem ex_has4 : hasM exA 4 = true := by decide +kernel

end Go.Proofs.YtdoaniccefdkaaaGreatDoor

/- flip.Settle where every edge of the list is in order. -/
namespace Go.Proofs.YtdoaniccefdkaaaGreatDoor
open Go.RowKit Tvf

/-- all in order -/
def D1 : MeshM → Int → Int → Bool := fun _ _ _ => true
theorem r_run {M : MeshM} {B S : List (Int × Int)} {n : Nat} : ∀ k, k ≤ B.length → sRun D1 ⟨M, B, S, n⟩ k = ⟨M, B.take (B.length - k), S, n⟩
  | 0, _ => by show (⟨M, B, S, n⟩ : SS) = _; rw [Nat.sub_zero, List.take_length]
  | k + 1, hk => by
    show sStep D1 (sRun D1 _ k) = _
    rw [r_run k (by omega)]
    obtain ⟨m, hm⟩ : ∃ m, B.length - k = m + 1 := ⟨B.length - k - 1, by omega⟩
    have e2 : B.length - (k + 1) = m := by omega
    have hmB : m < B.length := by omega
    rw [hm, e2, sStep_skip (by unfold D1; simp)]
    show (⟨M, (B.take (m + 1)).take ((B.take (m + 1)).length - 1), S, n⟩ : SS) = _
    rw [show (B.take (m + 1)).take ((B.take (m + 1)).length - 1) = B.take m from less_at (A := []) hmB]

/-- an edge in order, as the walk asks it -/
def InOrd (M : MeshM) (e : Int × Int) : Prop := (i64ok e.1 ∧ i64ok e.2) ∧ ((shB M e.1 e.2 && mayB M e.1 e.2) = false ∨ (shB M e.1 e.2 = true ∧ mayB M e.1 e.2 = true ∧ ∀ w, Calls Tryz.prog 136 #[V (ptAt M e.1), V (ptAt M e.2), V (ptAt M (apD M e.1 e.2)), V (ptAt M (apD M e.2 e.1))] w fun r w' => r = .returned (.bool false) ∧ Below w.heap.size w w'))

theorem r_turn {M : MeshM} {B : List (Int × Int)} (hB : ∀ e, e ∈ B → InOrd M e) (hs : Sound M) (h64 : ∀ p, p ∈ M.P → pt64 p) (hl : M.P.length ≤ 1048576) (hlen : B.length ≤ 1000000) : GoodT D1 B.length ⟨M, B, 0⟩ := by
  have hr : sRun D1 (Stg.s0 ⟨M, B, 0⟩) B.length = ⟨M, [], B, 0⟩ := by
    have := r_run (M := M) (B := B) (S := B) (n := 0) B.length (Nat.le_refl _)
    rw [Nat.sub_self] at this
    exact this
  refine ⟨hlen, fun k hk => ?_, by rw [hr], by rw [hr]; show 0 + 0 ≤ 100000; decide⟩
  show GoodS D1 (sRun D1 ⟨M, B, B, 0⟩ k)
  rw [r_run k (Nat.le_of_lt hk)]
  obtain ⟨m, hm⟩ : ∃ m, B.length - k = m + 1 := ⟨B.length - k - 1, by omega⟩
  have hmB : m < B.length := by omega
  rw [hm]
  have he : (⟨M, B.take (m + 1), B, 0⟩ : SS).e = B[m] := last_at (A := []) hmB
  obtain ⟨hi, ho⟩ := hB _ (List.getElem_mem hmB)
  refine ⟨?_, ?_, ?_, ?_, hlen, (by decide : 0 ≤ 1000000), fun w mb n F h => ?_, fun _ h5 => ?_⟩
  · intro e
    have := congrArg List.length e
    simp only [List.length_take, List.length_nil] at this
    omega
  · rw [he]; exact hi.1
  · rw [he]; exact hi.2
  · show (B.take (m + 1)).length ≤ 1000000
    rw [List.length_take]; omega
  · rw [he]
    rcases ho with ho | ⟨h1, h2, h3⟩
    · exact del_no h h64 hs hl hi.1 hi.2 ho
    · exact del_yes h h64 hs hl hi.1 hi.2 h1 h2 false h3
  · exact absurd h5 (by unfold D1; decide)

/-- Settle where every edge of the list is in order -/
theorem settle_still {w0 w : World} {mb n : Nat} {M : MeshM} {F : Nat → Prop} (h : MB w0 w mb n M F) (h64 : ∀ p, p ∈ M.P → pt64 p) (hs : Sound M) (hl : M.P.length ≤ 1048576) (hn : n ≤ 1000000) {L : List (Int × Int)} {ad : Option Addr} {cap : Nat} (hcap : L.length ≤ cap) (hk : KCells encP w ad L)
    (hoff : ∀ g, ad = some g → ¬F g.block ∧ g.block < w.heap.size) (hL : L.length ≤ 1000000) (hB : ∀ e, e ∈ L → InOrd M e) :
    Calls Tryz.prog 134 #[.pointer (some ⟨mb, 0, none⟩), .slice ad L.length cap] w fun r w' => r = .returned (.tuple #[.int .i64 0, .int .i64 0]) ∧ ∃ G, MB w0 w' mb n M G ∧ Stay F w w' ∧ ∀ i, G i → F i ∨ w.heap.size ≤ i := by
  have hg := r_turn hB hs h64 hl hL
  have hr : sRun D1 (Stg.s0 ⟨M, L, 0⟩) L.length = ⟨M, [], L, 0⟩ := by
    have := r_run (M := M) (B := L) (S := L) (n := 0) L.length (Nat.le_refl _)
    rw [Nat.sub_self] at this
    exact this
  have e1 : stRun D1 (fun _ => L.length) ⟨M, L, 0⟩ 0 = ⟨M, L, 0⟩ := rfl
  have e2 : (stRun D1 (fun _ => L.length) ⟨M, L, 0⟩ 1).M = M := by
    show (sRun D1 (Stg.s0 ⟨M, L, 0⟩) L.length).M = M
    rw [hr]
  refine (Settle_walk h h64 hs hl hn hcap hk hoff D1 (fun _ => L.length) 0 ?_ ?_ ?_).mono ?_
  · intro r hr'
    obtain rfl : r = 0 := by omega
    exact hg
  · intro r hr'; omega
  · rw [e1, hr]
  · rintro r w' ⟨rfl, G, h8, h9, h10⟩
    rw [e1] at h8 ⊢
    rw [e2] at h8
    exact ⟨rfl, G, h8, h9, h10⟩

/-! ### the square -/
theorem wt_sq1 (w : World) : Calls Tryz.prog 136 #[V (F0, F0), V (F4, F4), V (F0, F4), V (F4, F0)] w fun r w' => r = .returned (.bool false) ∧ Below w.heap.size w w' := by
  have h64 : ∀ p, p ∈ [(F0, F0), (F4, F4), (F0, F4), (F4, F0)] → pt64 p := pts64 (by decide)
  have hok : [(F0, F0), (F4, F4), (F0, F4), (F4, F0)].all ptOK = true := by decide +kernel
  have hf : fastRun F0 F0 F4 F4 F0 F4 F4 F0 = some (0, false) := by decide +kernel
  have hd : sgnI (det4 (F0, F0) (F4, F4) (F0, F4) (F4, F0)) = 0 := by decide +kernel
  have hs : signI (F0, F0) (F4, F4) (F0, F4) = 1 := by decide +kernel
  refine cwithin_walk (t := 1) (s := 0) (fun w => ?_) (fun w => ?_) (by decide) w
  · have := orient_sign (F0, F0) (F4, F4) (F0, F4) (pts64 (by decide)) w
    rwa [hs] at this
  · have := csign_exact F0 F0 F4 F4 F0 F4 F4 F0 h64 hok (cfast_walk h64 hok hf) w
    rwa [hd] at this
theorem wt_sq2 (w : World) : Calls Tryz.prog 136 #[V (F4, F4), V (F0, F0), V (F4, F0), V (F0, F4)] w fun r w' => r = .returned (.bool false) ∧ Below w.heap.size w w' := by
  have h64 : ∀ p, p ∈ [(F4, F4), (F0, F0), (F4, F0), (F0, F4)] → pt64 p := pts64 (by decide)
  have hok : [(F4, F4), (F0, F0), (F4, F0), (F0, F4)].all ptOK = true := by decide +kernel
  have hf : fastRun F4 F4 F0 F0 F4 F0 F0 F4 = some (0, false) := by decide +kernel
  have hd : sgnI (det4 (F4, F4) (F0, F0) (F4, F0) (F0, F4)) = 0 := by decide +kernel
  have hs : signI (F4, F4) (F0, F0) (F4, F0) = 1 := by decide +kernel
  refine cwithin_walk (t := 1) (s := 0) (fun w => ?_) (fun w => ?_) (by decide) w
  · have := orient_sign (F4, F4) (F0, F0) (F4, F0) (pts64 (by decide)) w
    rwa [hs] at this
  · have := csign_exact F4 F4 F0 F0 F4 F0 F0 F4 h64 hok (cfast_walk h64 hok hf) w
    rwa [hd] at this

theorem ex_e3 : edges3 exE = [(0, 1), (1, 2), (2, 0), (0, 2), (2, 3), (3, 0)] := by decide +kernel
theorem ex_s02 : shB exB 0 2 = true := by decide +kernel
theorem ex_m02 : mayB exB 0 2 = true := by decide +kernel
theorem ex_s20 : shB exB 2 0 = true := by decide +kernel
theorem ex_m20 : mayB exB 2 0 = true := by decide +kernel
theorem ex_p02 : (ptAt exB 0, ptAt exB 2, ptAt exB (apD exB 0 2), ptAt exB (apD exB 2 0)) = ((F0, F0), (F4, F4), (F0, F4), (F4, F0)) := by decide +kernel
theorem ex_p20 : (ptAt exB 2, ptAt exB 0, ptAt exB (apD exB 2 0), ptAt exB (apD exB 0 2)) = ((F4, F4), (F0, F0), (F4, F0), (F0, F4)) := by decide +kernel
theorem ex_quiet : [((0, 1) : Int × Int), (1, 2), (2, 3), (3, 0)].all (fun e => !(shB exB e.1 e.2 && mayB exB e.1 e.2)) = true := by decide +kernel
theorem ex_inOrd : ∀ e, e ∈ edges3 exE → InOrd exB e := by
  rw [ex_e3]
  have hq := quiet_of ex_quiet
  have hi := sm_of (l := [(0, 1), (1, 2), (2, 0), (0, 2), (2, 3), (3, 0)]) (by decide)
  intro e he
  refine ⟨hi e he, ?_⟩
  simp only [List.mem_cons, List.not_mem_nil, or_false] at he
  rcases he with rfl | rfl | rfl | rfl | rfl | rfl
  · exact .inl (hq _ (by simp))
  · exact .inl (hq _ (by simp))
  · refine .inr ⟨ex_s20, ex_m20, fun w => ?_⟩
    have h := ex_p20
    simp only [Prod.mk.injEq] at h
    obtain ⟨h1, h2, h3, h4⟩ := h
    rw [h1, h2, h3, h4]
    exact wt_sq2 w
  · refine .inr ⟨ex_s02, ex_m02, fun w => ?_⟩
    have h := ex_p02
    simp only [Prod.mk.injEq] at h
    obtain ⟨h1, h2, h3, h4⟩ := h
    rw [h1, h2, h3, h4]
    exact wt_sq1 w
  · exact .inl (hq _ (by simp))
  · exact .inl (hq _ (by simp))

end Go.Proofs.YtdoaniccefdkaaaGreatDoor

/- remove.Point where the point is taken out. -/
namespace Go.Proofs.YtdoaniccefdkaaaGreatDoor
open Go.RowKit Tvf Go.Maps Go.WideMaps

/-- the mesh, Point's boxes, its ring and its ears, as the loops turn the mesh -/
structure PInv (w0 wS : World) (F0 : Nat → Prop) (mb bm bv : Nat) (v : Int) (aR : Option Addr) (R : List Int) (aE : Option Addr) (E : List Tri3) (W : World) (n : Nat) (M : MeshM) (G : Nat → Prop) : Prop where
  m : MB w0 W mb n M G
  st : Stay F0 wS W
  sub : ∀ i, G i → F0 i ∨ wS.heap.size ≤ i
  bx : PBox W bm bv mb v
  rg : NCells W aR R
  tr : KCells encT W aE E
  om : bm < wS.heap.size ∧ ¬F0 bm
  ov : bv < wS.heap.size ∧ ¬F0 bv
  oR : ∀ g, aR = some g → g.block < wS.heap.size ∧ ¬F0 g.block
  oE : ∀ g, aE = some g → g.block < wS.heap.size ∧ ¬F0 g.block
section
variable {w0 wS W W' : World} {F0 G : Nat → Prop} {mb bm bv n n' : Nat} {v : Int} {aR aE : Option Addr} {R : List Int} {E : List Tri3} {M M' : MeshM}
theorem PInv.off (h : PInv w0 wS F0 mb bm bv v aR R aE E W n M G) {b : Nat} (hb : b < wS.heap.size ∧ ¬F0 b) : ¬G b := fun e => (h.sub b e).elim hb.2 (fun e => by have := hb.1; omega)
theorem PInv.step (h : PInv w0 wS F0 mb bm bv v aR R aE E W n M G) (hm : MB w0 W' mb n' M' (Fx G W W')) (hs : Stay G W W') : PInv w0 wS F0 mb bm bv v aR R aE E W' n' M' (Fx G W W') :=
  ⟨hm, h.st.trans (hs.mono fun i hi => h.sub i hi), fun i hi => hi.elim (h.sub i) (fun e => .inr (Nat.le_trans h.st.size e.1)), h.bx.stay hs (h.off h.om) (h.off h.ov), h.rg.stay hs (fun g e => h.off (h.oR g e)), h.tr.stay hs (fun g e => h.off (h.oE g e)), h.om, h.ov, h.oR, h.oE⟩
theorem PInv.low (h : PInv w0 wS F0 mb bm bv v aR R aE E W n M G) (hb : Below wS.heap.size W W') (hG : ∀ i, G i → W'.heap[i]? = W.heap[i]?) (hB : w0.heap.size ≤ wS.heap.size) : PInv w0 wS F0 mb bm bv v aR R aE E W' n M G :=
  ⟨h.m.lists hB hb hG, h.st.low hb, h.sub, ⟨(hb.cell (p := ⟨bm, 0, none⟩) h.om.1).trans h.bx.1, (hb.cell (p := ⟨bv, 0, none⟩) h.ov.1).trans h.bx.2⟩,
    fun hl => by obtain ⟨g, e, hg, hc⟩ := h.rg hl; exact ⟨g, e, Nat.lt_of_lt_of_le hg hb.size, fun i hi => (hb.cell (p := ⟨g, i, none⟩) (h.oR _ e).1).trans (hc i hi)⟩,
    fun hl => by obtain ⟨g, e, hg, hc⟩ := h.tr hl; exact ⟨g, e, Nat.lt_of_lt_of_le hg hb.size, fun i u hu => (hb.cell (p := ⟨g, i, none⟩) (h.oE _ e).1).trans (hc i u hu)⟩, h.om, h.ov, h.oR, h.oE⟩
theorem PInv.al (h : PInv w0 wS F0 mb bm bv v aR R aE E W n M G) (hB : w0.heap.size ≤ wS.heap.size) (o : Obj) : PInv w0 wS F0 mb bm bv v aR R aE E (W.alloc o) n M G :=
  h.low (((Below.refl _ _).alloc (Nat.le_refl _) o).mono h.st.size) (fun i hi => ((Below.refl _ _).alloc (Nat.le_refl _) o).block i (h.m.at_.flt i hi)) hB
theorem PInv.drew (h : PInv w0 wS F0 mb bm bv v aR R aE E W n M G) (hB : w0.heap.size ≤ wS.heap.size) : PInv w0 wS F0 mb bm bv v aR R aE E W.drew n M G :=
  h.low ((Below.refl _ _).drew.mono h.st.size) (fun _ _ => rfl) hB
theorem PInv.kill (h : PInv w0 wS F0 mb bm bv v aR R aE E W n M G) (hn : n ≤ 1000000000) {a b c : Int} (ha : i64ok a) (hb : i64ok b) (hc : i64ok c) :
    Calls Tryz.prog 29 #[.pointer (some ⟨mb, 0, none⟩), .int .i64 a, .int .i64 b, .int .i64 c] W fun r w' => (∃ k, r = .returned (.int .i64 k)) ∧ ∃ G', Hid (PInv w0 wS F0 mb bm bv v aR R aE E w' (n + 3) (killR M a b c) G') := by
  refine (kill_mb h.m hn ha hb hc).mono ?_
  rintro r w' ⟨rfl, hm, hs⟩
  exact ⟨⟨_, rfl⟩, _, h.step hm hs⟩
theorem PInv.make (h : PInv w0 wS F0 mb bm bv v aR R aE E W n M G) (h64 : ∀ p, p ∈ M.P → pt64 p) (hl : M.P.length ≤ 1048576) (hn : n ≤ 1000000000) (a b c : Int) :
    Calls Tryz.prog 28 #[.pointer (some ⟨mb, 0, none⟩), .int .i64 a, .int .i64 b, .int .i64 c] W fun r w' => r = .returned (.int .i64 (makeCode M a b c)) ∧ ∃ G', Hid (PInv w0 wS F0 mb bm bv v aR R aE E w' (n + 3) (makeR M a b c) G' ∧ Stay G W w' ∧ (∀ i, G' i → G i ∨ W.heap.size ≤ i)) := by
  refine (make_mb h.m h64 hl hn a b c).mono ?_
  rintro r w' ⟨rfl, hm, hs⟩
  exact ⟨rfl, _, h.step hm hs, hs, fun i hi => hi.imp id (fun e => e.1)⟩
end

theorem wheel_len (v : Int) (R : List Int) : (wheelL v R).length = R.length := by unfold wheelL; rw [List.length_map, List.length_range]
theorem wheel_take (v : Int) (R : List Int) {k : Nat} (h : k < R.length) : (wheelL v R).take (k + 1) = (wheelL v R).take k ++ [wheelT v R k] := by
  have hk : k < (wheelL v R).length := by rw [wheel_len]; exact h
  rw [List.take_succ_eq_append_getElem hk]
  have e : (wheelL v R)[k] = wheelT v R k := by
    show ((List.range R.length).map (wheelT v R))[k]'(by simpa [wheelL] using hk) = _
    rw [List.getElem_map, List.getElem_range]
  rw [e]
theorem allOk_getD {M : MeshM} {E : List Tri3} (h : allOk M E) {k : Nat} (hk : k < E.length) : makeCode (foldM M (E.take k)) (E.getD k (0, 0, 0)).1 (E.getD k (0, 0, 0)).2.1 (E.getD k (0, 0, 0)).2.2 = 0 := by
  have := allOk_at E M h k hk
  rw [List.getD_eq_getElem?_getD, List.getElem?_eq_getElem hk]
  exact this

end Go.Proofs.YtdoaniccefdkaaaGreatDoor

/- remove.Point: the walks. -/
namespace Go.Proofs.YtdoaniccefdkaaaGreatDoor
open Go.RowKit Tvf Go.Maps Go.WideMaps

set_option maxRecDepth 100000 in
set_option maxHeartbeats 1000000 in
theorem rpoint_nil (v : Int) (w : World) :
    Calls Tryz.prog 60 #[.pointer none, .int .i64 v] w fun r w' => r = .returned (.int .i64 2) ∧ Below w.heap.size w w' := by
  have b2 : ∀ o o', Below w.heap.size w ((w.alloc o).alloc o') := fun o o' => ((Below.refl _ _).alloc (Nat.le_refl _) _).alloc (by simp) _
  go_enter Tryz.func60, Tryz.ntmps60
  go_wp2
  go_ret
  exact ⟨rfl, b2 _ _⟩

set_option maxRecDepth 100000 in
set_option maxHeartbeats 1000000 in
theorem rpoint_index {w : World} {mb n : Nat} {M : MeshM} {F : Nat → Prop} (h : MeshAt w mb n M F) {v : Int} (hx : hasM M v = false) :
    Calls Tryz.prog 60 #[.pointer (some ⟨mb, 0, none⟩), .int .i64 v] w fun r w' => r = .returned (.int .i64 11) ∧ Below w.heap.size w w' := by
  have b2 : Below w.heap.size w ((w.alloc (.cells #[.pointer (some ⟨mb, 0, none⟩)] 29)).alloc (.cells #[.int .i64 v] 3)) := ((Below.refl _ _).alloc (Nat.le_refl _) _).alloc (by simp) _
  have HP := Lib.hid (point_walk (h.below b2) v)
  rw [hx] at HP
  have HB := Lib.hid b2
  obtain ⟨c1, c2⟩ := pbox_new w mb v 29 3
  clear h b2
  go_enter Tryz.func60, Tryz.ntmps60
  go_wp2_with (go_at_call 48; with_reducible refine HP.out.mono ?_; rintro r w1 ⟨rfl, hb1⟩)
  go_ret
  exact ⟨rfl, (HB.out.trans (hb1.mono HB.out.size)).alloc (Nat.le_trans HB.out.size hb1.size) _⟩

theorem ring_some {w : World} {mb n : Nat} {M : MeshM} {F : Nat → Prop} (h : MeshAt w mb n M F) (hs : Sound M) (hl : M.P.length ≤ 1048576) (hn : n ≤ 1000000000) {v : Int} (hv : i64ok v) (hsl : (spokesL M v).length ≤ 1000000) {R : List Int} (hR : ringR M v = R) (h0 : 0 < R.length) :
    Calls Tryz.prog 62 #[.pointer (some ⟨mb, 0, none⟩), .int .i64 v] w fun r w' => ∃ g cap, r = .returned (.slice (some ⟨g, 0, none⟩) R.length cap) ∧ R.length ≤ cap ∧ NCells w' (some ⟨g, 0, none⟩) R ∧ (w.heap.size ≤ g ∧ g < w'.heap.size) ∧ (∀ x, x ∈ R → i64ok x) ∧ Below w.heap.size w w' := by
  refine (Ring_walk h hs hl hn hv hsl).mono ?_
  rintro r w' ⟨u, rfl, ho, _, hb⟩
  rw [hR] at ho
  obtain ⟨ad, cap, rfl, hc, hn, hg⟩ := NCells.own ho
  obtain ⟨g, rfl, hlt, _⟩ := hn h0
  exact ⟨g, cap, rfl, hc, hn, ⟨(hg _ rfl).2.1, hlt⟩, fun x hx => of_wf (ho.2 x hx), hb⟩
theorem ring_none {w : World} {mb n : Nat} {M : MeshM} {F : Nat → Prop} (h : MeshAt w mb n M F) (hs : Sound M) (hl : M.P.length ≤ 1048576) (hn : n ≤ 1000000000) {v : Int} (hv : i64ok v) (hsl : (spokesL M v).length ≤ 1000000) (hR : ringR M v = []) :
    Calls Tryz.prog 62 #[.pointer (some ⟨mb, 0, none⟩), .int .i64 v] w fun r w' => r = .returned (.slice none 0 0) ∧ Below w.heap.size w w' := by
  refine (Ring_walk h hs hl hn hv hsl).mono ?_
  rintro r w' ⟨u, rfl, _, hu, hb⟩
  exact ⟨by rw [hu hR], hb⟩

section
variable {w : World} {mb n : Nat} {M : MeshM} {F : Nat → Prop} (h : MeshAt w mb n M F) {v : Int} (hv : i64ok v)
include h
theorem pt_box (hx : hasM M v = true) : Calls Tryz.prog 48 #[.pointer (some ⟨mb, 0, none⟩), .int .i64 v] ((w.alloc (.cells #[.pointer (some ⟨mb, 0, none⟩)] 29)).alloc (.cells #[.int .i64 v] 3)) fun r w' => r = .returned (.tuple #[.agg #[.float .f64 (ptAt M v).1, .float .f64 (ptAt M v).2], .bool true]) ∧ ((∀ o, (w'.alloc o).cell? ⟨w.heap.size, 0, none⟩ = some (.pointer (some ⟨mb, 0, none⟩))) ∧ ∀ o, (w'.alloc o).cell? ⟨w.heap.size + 1, 0, none⟩ = some (.int .i64 v)) ∧ Hid (∀ o, Below w.heap.size w (w'.alloc o)) := by
  have b2 : Below w.heap.size w ((w.alloc (.cells #[.pointer (some ⟨mb, 0, none⟩)] 29)).alloc (.cells #[.int .i64 v] 3)) := ((Below.refl _ _).alloc (Nat.le_refl _) _).alloc (by simp) _
  refine (point_walk (h.below b2) v).mono ?_
  rintro r w' ⟨rfl, hb⟩
  rw [hx]
  have p1 := (pbox_new w mb v 29 3).below hb
  have b3 := b2.trans (hb.mono b2.size)
  exact ⟨rfl, ⟨fun o => cell_al p1.1 o, fun o => cell_al p1.2 o⟩, fun o => b3.alloc b3.size o⟩
include hv
theorem sp_box (hs : Sound M) (hl : M.P.length ≤ 1048576) (hn : n ≤ 1000000000) {k : Nat} (hk : (spokesL M v).length = k) (W : World) (hp : PBox W w.heap.size (w.heap.size + 1) mb v) (hb : Hid (Below w.heap.size w W)) :
    Calls Tryz.prog 84 #[.pointer (some ⟨mb, 0, none⟩), .int .i64 v] W fun r w' => ∃ ad cap, r = .returned (.slice ad k cap) ∧ PBox w' w.heap.size (w.heap.size + 1) mb v ∧ Hid (Below w.heap.size w w') := by
  refine (spokes_walk (h.below hb.out) (fun a b c e => (hs.i64 hl e).2.2) hn hv).mono ?_
  rintro r w' ⟨sv, rfl, ho, hb'⟩
  obtain ⟨ad, cap, rfl, _⟩ := NCells.own ho
  rw [hk]
  exact ⟨ad, cap, rfl, hp.below hb', hb.out.trans (hb'.mono hb.out.size)⟩
end

set_option maxRecDepth 100000 in
set_option maxHeartbeats 1000000 in
theorem rpoint_none {w : World} {mb n : Nat} {M : MeshM} {F : Nat → Prop} (h : MeshAt w mb n M F) (hs : Sound M) (hl : M.P.length ≤ 1048576) (hn : n ≤ 1000000000) {v : Int} (hv : i64ok v) (hx : hasM M v = true) (hk : (spokesL M v).length = 0) :
    Calls Tryz.prog 60 #[.pointer (some ⟨mb, 0, none⟩), .int .i64 v] w fun r w' => r = .returned (.int .i64 5) ∧ Below w.heap.size w w' := by
  have HP := Lib.hid (pt_box h hx)
  have HS := Lib.hid (sp_box h hv hs hl hn hk)
  obtain ⟨c1, c2⟩ := pbox_new w mb v 29 3
  generalize ptAt M v = pp at *
  clear h hs hl hn hv hx hk
  go_enter Tryz.func60, Tryz.ntmps60
  go_wp2_with (first
    | (go_at_call 48; with_reducible refine HP.out.mono ?_; rintro r w1 ⟨rfl, ⟨d1, d2⟩, b1⟩)
    | (go_at_call 84; with_reducible refine (HS.out _ (PBox.i (d1 _) (d2 _)) (Lib.hid (b1.out _))).mono ?_; rintro r w2 ⟨ad, cap, rfl, p2, b2⟩))
  go_ret
  exact ⟨rfl, b2.out⟩

set_option maxRecDepth 100000 in
set_option maxHeartbeats 1000000 in
theorem rpoint_noring {w : World} {mb n : Nat} {M : MeshM} {F : Nat → Prop} (h : MeshAt w mb n M F) (hs : Sound M) (hl : M.P.length ≤ 1048576) (hn : n ≤ 1000000000) {v : Int} (hv : i64ok v) (hx : hasM M v = true) {k : Nat} (hk : (spokesL M v).length = k + 1) (hk6 : k ≤ 100000) (hR : ringR M v = []) :
    Calls Tryz.prog 60 #[.pointer (some ⟨mb, 0, none⟩), .int .i64 v] w fun r w' => r = .returned (.int .i64 14) ∧ Below w.heap.size w w' := by
  have HP := Lib.hid (pt_box h hx)
  have HS := Lib.hid (sp_box h hv hs hl hn hk)
  have HR := Lib.hid (fun W (hb : Below w.heap.size w W) => ring_none (h.below hb) hs hl hn hv (by omega) hR)
  obtain ⟨c1, c2⟩ := pbox_new w mb v 29 3
  have hkz : ¬((k + 1 : Nat) : Int) = 0 := by omega
  generalize ptAt M v = pp at *
  clear h hs hl hn hv hx hk hk6 hR
  generalize k + 1 = k1 at *
  have q22 : ∀ (w : World) (a : Option Addr) (n c n' c' : Nat), (binOp .eql 72 (.slice a n c) (.slice none n' c')).run Tryz.prog w = .ok (.bool a.isNone) w := fun w a n c n' c' => Lib.run_eql_slice_nil w _ _ a n c n' c' Tryz.underlying72
  go_enter Tryz.func60, Tryz.ntmps60
  go_wp2_with (first
    | (go_at_call 48; with_reducible refine HP.out.mono ?_; rintro r w1 ⟨rfl, ⟨d1, d2⟩, b1⟩)
    | (go_at_call 84; with_reducible refine (HS.out _ (PBox.i (d1 _) (d2 _)) (Lib.hid (b1.out _))).mono ?_; rintro r w2 ⟨ad, cap, rfl, p2, b2⟩; obtain ⟨e1, e2⟩ := p2.o)
    | (go_at_call 62; with_reducible refine (HR.out _ b2.out).mono ?_; rintro r w3 ⟨rfl, hb3⟩))
  go_ret
  exact ⟨rfl, b2.out.trans (hb3.mono b2.out.size)⟩

set_option maxRecDepth 100000 in
set_option maxHeartbeats 1000000 in
theorem rpoint_fixed {w : World} {mb n : Nat} {M : MeshM} {F : Nat → Prop} (h : MeshAt w mb n M F) (hs : Sound M) (hl : M.P.length ≤ 1048576) (hn : n ≤ 1000000000) {v : Int} (hv : i64ok v) (hx : hasM M v = true) {k : Nat} (hk : (spokesL M v).length = k + 1) (hk6 : k ≤ 100000) {R : List Int} (hR : ringR M v = R) (h0 : 0 < R.length) (hRl : R.length ≤ 1000000) (hf : R.any (fixB M v) = true) :
    Calls Tryz.prog 60 #[.pointer (some ⟨mb, 0, none⟩), .int .i64 v] w fun r w' => r = .returned (.int .i64 14) ∧ Below w.heap.size w w' := by
  have HP := Lib.hid (pt_box h hx)
  have HS := Lib.hid (sp_box h hv hs hl hn hk)
  have HR : Hid (∀ W, PBox W w.heap.size (w.heap.size + 1) mb v → Hid (Below w.heap.size w W) → Calls Tryz.prog 62 #[.pointer (some ⟨mb, 0, none⟩), .int .i64 v] W fun r w' => ∃ g cap, r = .returned (.slice (some ⟨g, 0, none⟩) R.length cap) ∧ Hid (Below w.heap.size w w') ∧
      Hid (Calls Tryz.prog 131 #[.slice (some ⟨g, 0, none⟩) R.length cap, .func (.func 132) #[] #[.pointer (some ⟨w.heap.size, 0, none⟩), .pointer (some ⟨w.heap.size + 1, 0, none⟩)]] w' fun e w2 => e = .returned (.bool true) ∧ Below w'.heap.size w' w2)) := by
    intro W hp hb
    refine (ring_some (h.below hb.out) hs hl hn hv (by omega) hR h0).mono ?_
    rintro r w' ⟨g, cap, rfl, _, hnc, _, hi, hb'⟩
    refine ⟨g, cap, rfl, hb.out.trans (hb'.mono hb.out.size), ?_⟩
    have := containsFunc_walk (cap := cap) (p := fixB M v) (lb := #[.pointer (some ⟨w.heap.size, 0, none⟩), .pointer (some ⟨w.heap.size + 1, 0, none⟩)]) enters_point1 hnc (by omega) fun W' x hx' hb2 => point1_walk ((h.below hb.out).below (hb'.trans (hb2.mono hb'.size))) hv ((hp.below hb').below hb2) (hi x hx')
    rw [hf] at this
    exact this
  obtain ⟨c1, c2⟩ := pbox_new w mb v 29 3
  have hkz : ¬((k + 1 : Nat) : Int) = 0 := by omega
  generalize ptAt M v = pp at *
  clear h hs hl hn hv hx hk hk6 hR hf
  generalize k + 1 = k1 at *
  generalize R.length = L at *
  have q22 : ∀ (w : World) (a : Option Addr) (n c n' c' : Nat), (binOp .eql 72 (.slice a n c) (.slice none n' c')).run Tryz.prog w = .ok (.bool a.isNone) w := fun w a n c n' c' => Lib.run_eql_slice_nil w _ _ a n c n' c' Tryz.underlying72
  go_enter Tryz.func60, Tryz.ntmps60
  go_wp2_with (first
    | (go_at_call 48; with_reducible refine HP.out.mono ?_; rintro r w1 ⟨rfl, ⟨d1, d2⟩, b1⟩)
    | (go_at_call 84; with_reducible refine (HS.out _ (PBox.i (d1 _) (d2 _)) (Lib.hid (b1.out _))).mono ?_; rintro r w2 ⟨ad, cap, rfl, p2, b2⟩; obtain ⟨e1, e2⟩ := p2.o)
    | (go_at_call 62; with_reducible refine (HR.out _ (PBox.i e1 e2) b2).mono ?_; rintro r w3 ⟨g, capr, rfl, b3, HF⟩)
    | (go_at_call 131; with_reducible refine HF.out.mono ?_; rintro r w4 ⟨rfl, hb4⟩))
  go_ret
  exact ⟨rfl, b3.out.trans (hb4.mono b3.out.size)⟩

end Go.Proofs.YtdoaniccefdkaaaGreatDoor
