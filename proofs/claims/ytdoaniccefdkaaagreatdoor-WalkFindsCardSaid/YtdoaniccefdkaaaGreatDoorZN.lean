/- Part of the proof. No conditions. -/
import Derived.Test.YtdoaniccefdkaaaGreatDoorZA
import Derived.Test.YtdoaniccefdkaaaGreatDoorZL
import Derived.Test.YtdoaniccefdkaaaGreatDoorZM
import Derived.Shelf.SlicesG.Cmp
import Derived.Deep.RegionHeld3
import Derived.Handy
import Derived.Sort.Grow
import Derived.Deep.CutRange
import Derived.Shelf.SlLaysF0
import Derived.Ground.SlsfProg
import Derived.Shelf.SlGeneric
import Derived.Test.YtdoaniccefdkaaaGreatDoorChecked
import Derived.Shelf.SlSortCmp.NoneTotal
import Derived.Laws.AppendOwn

set_option linter.all false
/- slices.Compare at three numbers a side; the order of triangles in their own form. -/
namespace Go.Proofs.YtdoaniccefdkaaaGreatDoor
open Go.RowKit

/-- what slices.Compare answers at three numbers a side -/
def cmpT (x y : Tri3) : Int := if x.1 ≠ y.1 then Lib.compareInt x.1 y.1 else if x.2.1 ≠ y.2.1 then Lib.compareInt x.2.1 y.2.1 else Lib.compareInt x.2.2 y.2.2
theorem compareInt_ne {x y : Int} : Lib.compareInt x y ≠ 0 ↔ x ≠ y := by
  unfold Lib.compareInt
  by_cases h1 : x < y
  · simp [h1]; omega
  · by_cases h2 : x > y
    · simp [h1, h2]; omega
    · simp [h1, h2]; omega
theorem compareInt_self (x : Int) : Lib.compareInt x x = 0 := by unfold Lib.compareInt; simp

def compT (x : Tri3) (k : Nat) : Int := if k = 0 then x.1 else if k = 1 then x.2.1 else x.2.2

theorem cmpInt_walk (x y : Int) (w : World) : Calls Tryz.prog 159 #[.int .i64 x, .int .i64 y] w fun e w' => e = .returned (.int .i64 (Lib.compareInt x y)) ∧ w' = w :=
  AnyG.cmp_Compare_int (P := Tryz.prog) Tryz.cmpInt x y w

theorem cmpT_at {x y : Tri3} {k : Nat} (hk : k < 3) (he : ∀ j, j < k → compT x j = compT y j) (hn : compT x k ≠ compT y k) : cmpT x y = Lib.compareInt (compT x k) (compT y k) := by
  unfold cmpT
  have h0 := he 0
  have h1 := he 1
  have : k = 0 ∨ k = 1 ∨ k = 2 := by omega
  rcases this with rfl | rfl | rfl
  · simp [compT] at hn ⊢; simp [hn]
  · have := h0 (by omega); simp [compT] at this hn ⊢; simp [this, hn]
  · have a := h0 (by omega); have b := h1 (by omega); simp [compT] at a b hn ⊢; simp [a, b]
theorem cmpT_eq {x y : Tri3} (he : ∀ j, j < 3 → compT x j = compT y j) : cmpT x y = 0 := by
  have h0 := he 0 (by omega)
  have h1 := he 1 (by omega)
  have h2 := he 2 (by omega)
  simp [compT] at h0 h1 h2
  unfold cmpT
  rw [if_neg (by simpa using h0), if_neg (by simpa using h1), h2, compareInt_self]

set_option maxRecDepth 100000 in
set_option maxHeartbeats 1000000 in
theorem compare_walk (p q : Nat) (x y : Tri3) (w : World) (x0 : w.cell? ⟨p, 0, none⟩ = some (.int .i64 x.1)) (x1 : w.cell? ⟨p, 1, none⟩ = some (.int .i64 x.2.1)) (x2 : w.cell? ⟨p, 2, none⟩ = some (.int .i64 x.2.2))
    (y0 : w.cell? ⟨q, 0, none⟩ = some (.int .i64 y.1)) (y1 : w.cell? ⟨q, 1, none⟩ = some (.int .i64 y.2.1)) (y2 : w.cell? ⟨q, 2, none⟩ = some (.int .i64 y.2.2)) :
    Calls Tryz.prog 110 #[.slice (some ⟨p, 0, none⟩) 3 3, .slice (some ⟨q, 0, none⟩) 3 3] w fun e w' => e = .returned (.int .i64 (cmpT x y)) ∧ w' = w := by
  have hX : ∀ k, k < 3 → w.cell? ⟨p, k, none⟩ = some (.int .i64 (compT x k)) := fun k hk => by
    have : k = 0 ∨ k = 1 ∨ k = 2 := by omega
    rcases this with rfl | rfl | rfl <;> assumption
  have hY : ∀ k, k < 3 → w.cell? ⟨q, k, none⟩ = some (.int .i64 (compT y k)) := fun k hk => by
    have : k = 0 ∨ k = 1 ∨ k = 2 := by omega
    rcases this with rfl | rfl | rfl <;> assumption
  have HX := Lib.hid hX
  have HY := Lib.hid hY
  clear hX hY x0 x1 x2 y0 y1 y2
  go_enter Tryz.func110, Tryz.ntmps110
  go_wp2
  go_loopw [11] (fun i wr => ∃ k : Nat, k ≤ 3 ∧ i = .int .i64 k ∧ wr = w ∧ Hid (∀ j, j < k → compT x j = compT y j)) (fun i _ => 3 - (intOf i).toNat)
  case atStart => exact ⟨0, by omega, rfl, rfl, fun j hj => by omega⟩
  case round =>
    obtain ⟨k, hk, rfl, rfl, HE⟩ := hrel
    by_cases hlt : k < 3
    · have hx := HX.out k hlt
      have hy := HY.out k hlt
      have HC := Lib.hid (cmpInt_walk (compT x k) (compT y k))
      by_cases he : compT x k = compT y k
      · have hz : Lib.compareInt (compT x k) (compT y k) = 0 := by rw [he, compareInt_self]
        rw [hz] at HC
        have HN : Hid (∀ j, j < k + 1 → compT x j = compT y j) := fun j hj => by
          by_cases q : j = k
          · rw [q]; exact he
          · exact HE.out j (by omega)
        clear he hz
        go_wp2_with (go_at_call 159; refine (HC.out _).mono ?_; rintro r w1 ⟨rfl, rfl⟩)
        go_roundw
        case rel => exact ⟨k + 1, by omega, by rfl, (by first | trivial | rfl), HN⟩
        case measure => simp [intOf]; omega
      · have HA := Lib.hid (cmpT_at hlt HE.out he)
        have hne := compareInt_ne.2 he
        clear he
        rw [← HA.out] at HC hne
        go_wp2_with (go_at_call 159; refine (HC.out _).mono ?_; rintro r w1 ⟨rfl, rfl⟩)
        go_ret
        exact ⟨rfl, rfl⟩
    · have e : k = 3 := by omega
      subst e
      have HQ := Lib.hid (cmpT_eq HE.out)
      clear hlt hk HE
      go_wp2
      go_ret
      refine ⟨?_, rfl⟩
      rw [HQ.out]; rfl

end Go.Proofs.YtdoaniccefdkaaaGreatDoor

/- mesh.sorted at triangles: the closures. -/
namespace Go.Proofs.YtdoaniccefdkaaaGreatDoor
open Go.RowKit

def vT (x : Tri3) : Value := .agg #[.int .i64 x.1, .int .i64 x.2.1, .int .i64 x.2.2]

theorem triKey_walk (x : Tri3) (w : World) :
    Calls Tryz.prog 68 #[vT x] w fun e w' => e = .returned (vT x) ∧ w' = ((w.alloc (.cells #[.int .i64 x.1, .int .i64 x.2.1, .int .i64 x.2.2] 45)).alloc (.cells #[.int .i64 x.1, .int .i64 x.2.1, .int .i64 x.2.2] 44)) := by
  obtain ⟨a, b, c⟩ := x
  unfold vT
  go_enter Tryz.func68, Tryz.ntmps68
  go_wp2
  go_returns
  exact ⟨rfl, rfl⟩

end Go.Proofs.YtdoaniccefdkaaaGreatDoor

/- mesh.sorted at triangles: how two are held against each other. -/
namespace Go.Proofs.YtdoaniccefdkaaaGreatDoor
open Go.RowKit

/-- what the closure of mesh.sorted reads -/
def CmpS (w : World) (kb : Nat) (k : Value) (b c : Nat) (x y : Tri3) : Prop := w.cell? ⟨kb, 0, none⟩ = some k ∧ w.cell? ⟨b, 0, none⟩ = some (.int .i64 x.1) ∧ w.cell? ⟨b, 1, none⟩ = some (.int .i64 x.2.1) ∧ w.cell? ⟨b, 2, none⟩ = some (.int .i64 x.2.2)
      ∧ w.cell? ⟨c, 0, none⟩ = some (.int .i64 y.1) ∧ w.cell? ⟨c, 1, none⟩ = some (.int .i64 y.2.1) ∧ w.cell? ⟨c, 2, none⟩ = some (.int .i64 y.2.2)
theorem CmpS.drew {w : World} {kb : Nat} {k : Value} {b c : Nat} {x y : Tri3} (h : CmpS w kb k b c x y) : CmpS w.drew kb k b c x y := h
theorem CmpS.alloc {w : World} {kb : Nat} {k : Value} {b c : Nat} {x y : Tri3} (h : CmpS w kb k b c x y) {o : Obj} : CmpS (w.alloc o) kb k b c x y :=
  ⟨Lib.cell?_alloc_some _ h.1, Lib.cell?_alloc_some _ h.2.1, Lib.cell?_alloc_some _ h.2.2.1, Lib.cell?_alloc_some _ h.2.2.2.1, Lib.cell?_alloc_some _ h.2.2.2.2.1, Lib.cell?_alloc_some _ h.2.2.2.2.2.1, Lib.cell?_alloc_some _ h.2.2.2.2.2.2⟩

theorem cellDrew {w : World} {a : Addr} {x : Option Value} (h : w.cell? a = x) : w.drew.cell? a = x := h

/-- what slices.Compare reads -/
def CmpC (w : World) (p q : Nat) (x y : Tri3) : Prop := w.cell? ⟨p, 0, none⟩ = some (.int .i64 x.1) ∧ w.cell? ⟨p, 1, none⟩ = some (.int .i64 x.2.1) ∧ w.cell? ⟨p, 2, none⟩ = some (.int .i64 x.2.2)
      ∧ w.cell? ⟨q, 0, none⟩ = some (.int .i64 y.1) ∧ w.cell? ⟨q, 1, none⟩ = some (.int .i64 y.2.1) ∧ w.cell? ⟨q, 2, none⟩ = some (.int .i64 y.2.2)

/-- w' is w some draws on, with blocks laid behind -/
def Grew (w w' : World) : Prop := ∃ q os, w' = Sort.grow (w.drewN q) os
theorem Grew.refl (w : World) : Grew w w := ⟨0, #[], by rw [Sort.grow_empty]; rfl⟩
theorem Grew.alloc {a w : World} {o : Obj} (h : Grew a w) : Grew a (w.alloc o) := by
  obtain ⟨q, os, rfl⟩ := h
  exact ⟨q, os ++ #[o], by rw [Sort.alloc_eq_grow, Sort.grow_grow]⟩
theorem Grew.drewN {a w : World} {n : Nat} (h : Grew a w) : Grew a (w.drewN n) := by
  obtain ⟨q, os, rfl⟩ := h
  exact ⟨q + n, os, by rw [← World.drewN_drewN]; rfl⟩
theorem Grew.drew {a w : World} (h : Grew a w) : Grew a w.drew := h.drewN (n := 1)

set_option maxRecDepth 100000 in
set_option maxHeartbeats 8000000 in
theorem triCmp_walk (kb : Nat) (x y : Tri3) (w : World) (hk : w.cell? ⟨kb, 0, none⟩ = some (.func (.func 68) #[] #[])) :
    Calls Tryz.prog 138 #[vT x, vT y, .pointer (some ⟨kb, 0, none⟩)] w fun e w' => e = .returned (.int .i64 (cmpT x y)) ∧ Grew w w' := by
  have HX := Lib.hid (triKey_walk x)
  have HY := Lib.hid (triKey_walk y)
  have HC := Lib.hid (fun p q => compare_walk p q x y)
  have hkl := World.block_lt_of_cell? _ _ hk
  obtain ⟨x0, x1, x2⟩ := x
  obtain ⟨y0, y1, y2⟩ := y
  unfold vT at *
  dsimp only at HX HY HC
  generalize cmpT (x0, x1, x2) (y0, y1, y2) = z at *
  have hB : CmpS ((w.alloc (.cells #[.int .i64 x0, .int .i64 x1, .int .i64 x2] 45)).alloc (.cells #[.int .i64 y0, .int .i64 y1, .int .i64 y2] 45)) kb (.func (.func 68) #[] #[]) w.heap.size (w.heap.size + 1) (x0, x1, x2) (y0, y1, y2) := by
    refine ⟨Lib.cell?_alloc_some _ (Lib.cell?_alloc_some _ hk), ?_, ?_, ?_, ?_, ?_, ?_⟩ <;> simp
  go_enter Tryz.func138, Tryz.ntmps138
  have HB := Lib.hid hB
  clear hB hk
  go_upto_region 1 with fail
  go_cut [6, 7] from 8 to 13 (fun s6 s7 wx => ∃ p q : Nat, s6 = .pointer (some ⟨p, 0, none⟩) ∧ s7 = .pointer (some ⟨q, 0, none⟩) ∧ Hid (CmpC wx p q (x0, x1, x2) (y0, y1, y2)) ∧ Hid (Grew w wx))
  case first =>
    go_region_held3 (fun w' => w'.cell? ⟨kb, 0, none⟩ = some (.func (.func 68) #[] #[]) ∧ w'.cell? ⟨w.heap.size, 0, none⟩ = some (.int .i64 x0) ∧ w'.cell? ⟨w.heap.size, 1, none⟩ = some (.int .i64 x1) ∧ w'.cell? ⟨w.heap.size, 2, none⟩ = some (.int .i64 x2)
        ∧ w'.cell? ⟨w.heap.size + 1, 0, none⟩ = some (.int .i64 y0) ∧ w'.cell? ⟨w.heap.size + 1, 1, none⟩ = some (.int .i64 y1) ∧ w'.cell? ⟨w.heap.size + 1, 2, none⟩ = some (.int .i64 y2))
      (first | (change CmpS _ kb (.func (.func 68) #[] #[]) w.heap.size (w.heap.size + 1) (x0, x1, x2) (y0, y1, y2); repeat (first | with_reducible exact HB.out | with_reducible apply CmpS.drew | with_reducible apply CmpS.alloc)))
      (first
        | (go_at_call 68; (first | (with_reducible refine (HX.out _).mono ?_) | (with_reducible refine (HY.out _).mono ?_)); rintro r w1 ⟨rfl, rfl⟩))
    all_goals
      go_wp2_with fail
      go_meet
      refine ⟨_, _, rfl, rfl, ?_, ?_⟩
      · refine ⟨?_, ?_, ?_, ?_, ?_, ?_⟩ <;> (repeat (first | (refine (World.cell?_alloc_at _ _ _ _ ?_).trans ?_; (focus (simp; done)); rfl) | with_reducible apply Lib.cell?_alloc_some | with_reducible apply cellDrew))
      · unfold Hid
        repeat (first | with_reducible exact Grew.refl _ | with_reducible apply Grew.drewN | with_reducible apply Grew.drew | with_reducible apply Grew.alloc)
  case rest =>
    obtain ⟨p, q, rfl, rfl, HCC, HG⟩ := hcut
    clear HX HY HB
    obtain ⟨p0, p1, p2, q0, q1, q2⟩ := HCC.out
    have HCC2 := Lib.hid (HC.out p q wc.drew p0 p1 p2 q0 q1 q2)
    clear p0 p1 p2 q0 q1 q2
    go_wp2
    go_region_held3 (fun w' => w' = wc.drew) (first | rfl | assumption) (first | (go_at_call 110; refine HCC2.out.mono ?_; rintro r w1 ⟨rfl, rfl⟩))
    go_wp2
    go_ret
    exact ⟨rfl, HG.out.drew⟩

end Go.Proofs.YtdoaniccefdkaaaGreatDoor

/-
  DERIVED: THE SHELF's CONTRACTS AT THIS DUMP, IN PLAIN WORDS (tools/lay-plain.mjs out of 'YtdoaniccefdkaaaGreatDoorSh2.lean', which tools/lay-shelf.mjs wrote): THE SAME DECLARATIONS UNDER THE SAME NAMES: 'import', 'namespace', 'open', 'def', 'theorem' AND NOTHING ELSE: no command of the shelf's: FOR A HAND-IN. Each laying: the table of numbers ('.._ren') and one theorem, a field a fact of the dump's own or the kernel's comparison; each contract: ONE APPLICATION.
-/
namespace Go.Proofs
open Go.Shelf
def Tryz.sortTri_ren : Go.Shelf.Ren := ⟨fun | 6 => 137 | 15 => 167 | 14 => 178 | 28 => 216 | 29 => 217 | 20 => 239 | 21 => 240 | 22 => 241 | 23 => 242 | 24 => 243 | 25 => 244 | 26 => 245 | 27 => 246 | 46 => 283 | 47 => 270 | 48 => 271 | 49 => 284 | 50 => 285 | 57 => 323 | n => n, fun | 22 => 23 | 24 => 45 | 25 => 187 | 3 => 3 | 39 => 205 | 0 => 0 | 53 => 243 | 55 => 83 | 4 => 4 | 46 => 249 | 45 => 248 | 50 => 32 | 5 => 5 | 9 => 9 | 66 => 286 | 70 => 290 | 76 => 316 | 77 => 308 | n => n, fun | n => n⟩
theorem Tryz.sortTri : Go.Proofs.SlLaysF0.n6 Tryz.prog Tryz.sortTri_ren := {
  mixed := by kernel_rfl
  f6 := ⟨Tryz.f137.name, by decide, Tryz.func137.trans (congrArg some (by kernel_rfl))⟩
  f14 := ⟨Tryz.f178.name, by decide, Tryz.func178.trans (congrArg some (by kernel_rfl))⟩
  f15 := Tryz.func167.trans (congrArg some (by kernel_rfl))
  f20 := ⟨Tryz.f239.name, by decide, Tryz.func239.trans (congrArg some (by kernel_rfl))⟩
  f21 := ⟨Tryz.f240.name, by decide, Tryz.func240.trans (congrArg some (by kernel_rfl))⟩
  f22 := ⟨Tryz.f241.name, by decide, Tryz.func241.trans (congrArg some (by kernel_rfl))⟩
  f23 := ⟨Tryz.f242.name, by decide, Tryz.func242.trans (congrArg some (by kernel_rfl))⟩
  f24 := ⟨Tryz.f243.name, by decide, Tryz.func243.trans (congrArg some (by kernel_rfl))⟩
  f25 := ⟨Tryz.f244.name, by decide, Tryz.func244.trans (congrArg some (by kernel_rfl))⟩
  f26 := ⟨Tryz.f245.name, by decide, Tryz.func245.trans (congrArg some (by kernel_rfl))⟩
  f27 := ⟨Tryz.f246.name, by decide, Tryz.func246.trans (congrArg some (by kernel_rfl))⟩
  f28 := Tryz.func216.trans (congrArg some (by kernel_rfl))
  f29 := Tryz.func217.trans (congrArg some (by kernel_rfl))
  f46 := ⟨Tryz.f283.name, by decide, Tryz.func283.trans (congrArg some (by kernel_rfl))⟩
  f47 := Tryz.func270.trans (congrArg some (by kernel_rfl))
  f48 := Tryz.func271.trans (congrArg some (by kernel_rfl))
  f49 := ⟨Tryz.f284.name, by decide, Tryz.func284.trans (congrArg some (by kernel_rfl))⟩
  f50 := ⟨Tryz.f285.name, by decide, Tryz.func285.trans (congrArg some (by kernel_rfl))⟩
  f57 := ⟨Tryz.f323.name, by decide, Tryz.func323.trans (congrArg some (by kernel_rfl))⟩
  t0 := Tryz.underlying0
  a0 := Tryz.isAgg0
  z0 := Tryz.sizeOf0
  v0 := Tryz.zeroValue0
  t3 := Tryz.underlying3
  a3 := Tryz.isAgg3
  z3 := Tryz.sizeOf3
  v3 := Tryz.zeroValue3
  t4 := Tryz.underlying4
  a4 := Tryz.isAgg4
  z4 := Tryz.sizeOf4
  v4 := Tryz.zeroValue4
  t5 := Tryz.underlying5
  a5 := Tryz.isAgg5
  z5 := Tryz.sizeOf5
  v5 := Tryz.zeroValue5
  t9 := Tryz.underlying9
  a9 := Tryz.isAgg9
  z9 := Tryz.sizeOf9
  v9 := Tryz.zeroValue9
  t22 := Tryz.underlying23
  a22 := Tryz.isAgg23
  z22 := Tryz.sizeOf23
  v22 := Tryz.zeroValue23
  t25 := Tryz.underlying187
  a25 := Tryz.isAgg187
  z25 := Tryz.sizeOf187
  v25 := Tryz.zeroValue187
  t39 := Tryz.underlying205
  a39 := Tryz.isAgg205
  z39 := Tryz.sizeOf205
  v39 := Tryz.zeroValue205
  t45 := Tryz.underlying248
  a45 := Tryz.isAgg248
  z45 := Tryz.sizeOf248
  v45 := Tryz.zeroValue248
  t46 := Tryz.underlying249
  a46 := Tryz.isAgg249
  z46 := Tryz.sizeOf249
  v46 := Tryz.zeroValue249
  t50 := Tryz.underlying32
  a50 := Tryz.isAgg32
  z50 := Tryz.sizeOf32
  v50 := Tryz.zeroValue32
  t53 := Tryz.underlying243
  a53 := Tryz.isAgg243
  z53 := Tryz.sizeOf243
  v53 := Tryz.zeroValue243
  t55 := Tryz.underlying83
  a55 := Tryz.isAgg83
  z55 := Tryz.sizeOf83
  v55 := Tryz.zeroValue83
  t66 := Tryz.underlying286
  a66 := Tryz.isAgg286
  z66 := Tryz.sizeOf286
  v66 := Tryz.zeroValue286
  t70 := Tryz.underlying290
  a70 := Tryz.isAgg290
  z70 := Tryz.sizeOf290
  v70 := Tryz.zeroValue290
  t76 := Tryz.underlying316
  a76 := Tryz.isAgg316
  z76 := Tryz.sizeOf316
  v76 := Tryz.zeroValue316
  t77 := Tryz.underlying308
  a77 := Tryz.isAgg308
  z77 := Tryz.sizeOf308
  v77 := Tryz.zeroValue308 }
def Tryz.sortPair_ren : Go.Shelf.Ren := ⟨fun | 6 => 203 | 15 => 167 | 14 => 267 | 28 => 216 | 29 => 217 | 20 => 312 | 21 => 313 | 22 => 314 | 23 => 315 | 24 => 316 | 25 => 317 | 26 => 318 | 27 => 319 | 46 => 336 | 47 => 270 | 48 => 271 | 49 => 337 | 50 => 338 | 57 => 341 | n => n, fun | 22 => 78 | 24 => 62 | 25 => 159 | 3 => 3 | 39 => 205 | 0 => 0 | 53 => 243 | 55 => 83 | 4 => 4 | 46 => 249 | 45 => 248 | 50 => 32 | 5 => 5 | 9 => 9 | 66 => 286 | 70 => 290 | 76 => 316 | 77 => 308 | n => n, fun | n => n⟩
theorem Tryz.sortPair : Go.Proofs.SlLaysF0.n6 Tryz.prog Tryz.sortPair_ren := {
  mixed := by kernel_rfl
  f6 := ⟨Tryz.f203.name, by decide, Tryz.func203.trans (congrArg some (by kernel_rfl))⟩
  f14 := ⟨Tryz.f267.name, by decide, Tryz.func267.trans (congrArg some (by kernel_rfl))⟩
  f15 := Tryz.func167.trans (congrArg some (by kernel_rfl))
  f20 := ⟨Tryz.f312.name, by decide, Tryz.func312.trans (congrArg some (by kernel_rfl))⟩
  f21 := ⟨Tryz.f313.name, by decide, Tryz.func313.trans (congrArg some (by kernel_rfl))⟩
  f22 := ⟨Tryz.f314.name, by decide, Tryz.func314.trans (congrArg some (by kernel_rfl))⟩
  f23 := ⟨Tryz.f315.name, by decide, Tryz.func315.trans (congrArg some (by kernel_rfl))⟩
  f24 := ⟨Tryz.f316.name, by decide, Tryz.func316.trans (congrArg some (by kernel_rfl))⟩
  f25 := ⟨Tryz.f317.name, by decide, Tryz.func317.trans (congrArg some (by kernel_rfl))⟩
  f26 := ⟨Tryz.f318.name, by decide, Tryz.func318.trans (congrArg some (by kernel_rfl))⟩
  f27 := ⟨Tryz.f319.name, by decide, Tryz.func319.trans (congrArg some (by kernel_rfl))⟩
  f28 := Tryz.func216.trans (congrArg some (by kernel_rfl))
  f29 := Tryz.func217.trans (congrArg some (by kernel_rfl))
  f46 := ⟨Tryz.f336.name, by decide, Tryz.func336.trans (congrArg some (by kernel_rfl))⟩
  f47 := Tryz.func270.trans (congrArg some (by kernel_rfl))
  f48 := Tryz.func271.trans (congrArg some (by kernel_rfl))
  f49 := ⟨Tryz.f337.name, by decide, Tryz.func337.trans (congrArg some (by kernel_rfl))⟩
  f50 := ⟨Tryz.f338.name, by decide, Tryz.func338.trans (congrArg some (by kernel_rfl))⟩
  f57 := ⟨Tryz.f341.name, by decide, Tryz.func341.trans (congrArg some (by kernel_rfl))⟩
  t0 := Tryz.underlying0
  a0 := Tryz.isAgg0
  z0 := Tryz.sizeOf0
  v0 := Tryz.zeroValue0
  t3 := Tryz.underlying3
  a3 := Tryz.isAgg3
  z3 := Tryz.sizeOf3
  v3 := Tryz.zeroValue3
  t4 := Tryz.underlying4
  a4 := Tryz.isAgg4
  z4 := Tryz.sizeOf4
  v4 := Tryz.zeroValue4
  t5 := Tryz.underlying5
  a5 := Tryz.isAgg5
  z5 := Tryz.sizeOf5
  v5 := Tryz.zeroValue5
  t9 := Tryz.underlying9
  a9 := Tryz.isAgg9
  z9 := Tryz.sizeOf9
  v9 := Tryz.zeroValue9
  t22 := Tryz.underlying78
  a22 := Tryz.isAgg78
  z22 := Tryz.sizeOf78
  v22 := Tryz.zeroValue78
  t25 := Tryz.underlying159
  a25 := Tryz.isAgg159
  z25 := Tryz.sizeOf159
  v25 := Tryz.zeroValue159
  t39 := Tryz.underlying205
  a39 := Tryz.isAgg205
  z39 := Tryz.sizeOf205
  v39 := Tryz.zeroValue205
  t45 := Tryz.underlying248
  a45 := Tryz.isAgg248
  z45 := Tryz.sizeOf248
  v45 := Tryz.zeroValue248
  t46 := Tryz.underlying249
  a46 := Tryz.isAgg249
  z46 := Tryz.sizeOf249
  v46 := Tryz.zeroValue249
  t50 := Tryz.underlying32
  a50 := Tryz.isAgg32
  z50 := Tryz.sizeOf32
  v50 := Tryz.zeroValue32
  t53 := Tryz.underlying243
  a53 := Tryz.isAgg243
  z53 := Tryz.sizeOf243
  v53 := Tryz.zeroValue243
  t55 := Tryz.underlying83
  a55 := Tryz.isAgg83
  z55 := Tryz.sizeOf83
  v55 := Tryz.zeroValue83
  t66 := Tryz.underlying286
  a66 := Tryz.isAgg286
  z66 := Tryz.sizeOf286
  v66 := Tryz.zeroValue286
  t70 := Tryz.underlying290
  a70 := Tryz.isAgg290
  z70 := Tryz.sizeOf290
  v70 := Tryz.zeroValue290
  t76 := Tryz.underlying316
  a76 := Tryz.isAgg316
  z76 := Tryz.sizeOf316
  v76 := Tryz.zeroValue316
  t77 := Tryz.underlying308
  a77 := Tryz.isAgg308
  z77 := Tryz.sizeOf308
  v77 := Tryz.zeroValue308 }
def Tryz.sortSeg_ren : Go.Shelf.Ren := ⟨fun | 6 => 182 | 15 => 167 | 14 => 250 | 28 => 216 | 29 => 217 | 20 => 288 | 21 => 289 | 22 => 290 | 23 => 291 | 24 => 292 | 25 => 293 | 26 => 294 | 27 => 295 | 46 => 324 | 47 => 270 | 48 => 271 | 49 => 325 | 50 => 326 | 57 => 339 | n => n, fun | 22 => 24 | 24 => 141 | 25 => 224 | 3 => 3 | 39 => 205 | 0 => 0 | 53 => 243 | 55 => 83 | 4 => 4 | 46 => 249 | 45 => 248 | 50 => 32 | 5 => 5 | 9 => 9 | 66 => 286 | 70 => 290 | 76 => 316 | 77 => 308 | n => n, fun | n => n⟩
theorem Tryz.sortSeg : Go.Proofs.SlLaysF0.n6 Tryz.prog Tryz.sortSeg_ren := {
  mixed := by kernel_rfl
  f6 := ⟨Tryz.f182.name, by decide, Tryz.func182.trans (congrArg some (by kernel_rfl))⟩
  f14 := ⟨Tryz.f250.name, by decide, Tryz.func250.trans (congrArg some (by kernel_rfl))⟩
  f15 := Tryz.func167.trans (congrArg some (by kernel_rfl))
  f20 := ⟨Tryz.f288.name, by decide, Tryz.func288.trans (congrArg some (by kernel_rfl))⟩
  f21 := ⟨Tryz.f289.name, by decide, Tryz.func289.trans (congrArg some (by kernel_rfl))⟩
  f22 := ⟨Tryz.f290.name, by decide, Tryz.func290.trans (congrArg some (by kernel_rfl))⟩
  f23 := ⟨Tryz.f291.name, by decide, Tryz.func291.trans (congrArg some (by kernel_rfl))⟩
  f24 := ⟨Tryz.f292.name, by decide, Tryz.func292.trans (congrArg some (by kernel_rfl))⟩
  f25 := ⟨Tryz.f293.name, by decide, Tryz.func293.trans (congrArg some (by kernel_rfl))⟩
  f26 := ⟨Tryz.f294.name, by decide, Tryz.func294.trans (congrArg some (by kernel_rfl))⟩
  f27 := ⟨Tryz.f295.name, by decide, Tryz.func295.trans (congrArg some (by kernel_rfl))⟩
  f28 := Tryz.func216.trans (congrArg some (by kernel_rfl))
  f29 := Tryz.func217.trans (congrArg some (by kernel_rfl))
  f46 := ⟨Tryz.f324.name, by decide, Tryz.func324.trans (congrArg some (by kernel_rfl))⟩
  f47 := Tryz.func270.trans (congrArg some (by kernel_rfl))
  f48 := Tryz.func271.trans (congrArg some (by kernel_rfl))
  f49 := ⟨Tryz.f325.name, by decide, Tryz.func325.trans (congrArg some (by kernel_rfl))⟩
  f50 := ⟨Tryz.f326.name, by decide, Tryz.func326.trans (congrArg some (by kernel_rfl))⟩
  f57 := ⟨Tryz.f339.name, by decide, Tryz.func339.trans (congrArg some (by kernel_rfl))⟩
  t0 := Tryz.underlying0
  a0 := Tryz.isAgg0
  z0 := Tryz.sizeOf0
  v0 := Tryz.zeroValue0
  t3 := Tryz.underlying3
  a3 := Tryz.isAgg3
  z3 := Tryz.sizeOf3
  v3 := Tryz.zeroValue3
  t4 := Tryz.underlying4
  a4 := Tryz.isAgg4
  z4 := Tryz.sizeOf4
  v4 := Tryz.zeroValue4
  t5 := Tryz.underlying5
  a5 := Tryz.isAgg5
  z5 := Tryz.sizeOf5
  v5 := Tryz.zeroValue5
  t9 := Tryz.underlying9
  a9 := Tryz.isAgg9
  z9 := Tryz.sizeOf9
  v9 := Tryz.zeroValue9
  t22 := Tryz.underlying24
  a22 := Tryz.isAgg24
  z22 := Tryz.sizeOf24
  v22 := Tryz.zeroValue24
  t25 := Tryz.underlying224
  a25 := Tryz.isAgg224
  z25 := Tryz.sizeOf224
  v25 := Tryz.zeroValue224
  t39 := Tryz.underlying205
  a39 := Tryz.isAgg205
  z39 := Tryz.sizeOf205
  v39 := Tryz.zeroValue205
  t45 := Tryz.underlying248
  a45 := Tryz.isAgg248
  z45 := Tryz.sizeOf248
  v45 := Tryz.zeroValue248
  t46 := Tryz.underlying249
  a46 := Tryz.isAgg249
  z46 := Tryz.sizeOf249
  v46 := Tryz.zeroValue249
  t50 := Tryz.underlying32
  a50 := Tryz.isAgg32
  z50 := Tryz.sizeOf32
  v50 := Tryz.zeroValue32
  t53 := Tryz.underlying243
  a53 := Tryz.isAgg243
  z53 := Tryz.sizeOf243
  v53 := Tryz.zeroValue243
  t55 := Tryz.underlying83
  a55 := Tryz.isAgg83
  z55 := Tryz.sizeOf83
  v55 := Tryz.zeroValue83
  t66 := Tryz.underlying286
  a66 := Tryz.isAgg286
  z66 := Tryz.sizeOf286
  v66 := Tryz.zeroValue286
  t70 := Tryz.underlying290
  a70 := Tryz.isAgg290
  z70 := Tryz.sizeOf290
  v70 := Tryz.zeroValue290
  t76 := Tryz.underlying316
  a76 := Tryz.isAgg316
  z76 := Tryz.sizeOf316
  v76 := Tryz.zeroValue316
  t77 := Tryz.underlying308
  a77 := Tryz.isAgg308
  z77 := Tryz.sizeOf308
  v77 := Tryz.zeroValue308 }
end Go.Proofs

/- mesh.sorted at triangles. -/
namespace Go.Proofs.YtdoaniccefdkaaaGreatDoor
open Go.RowKit Go.Maps Go.WideMaps Go.Sort

def encT (x : Tri3) : List Value := [.int .i64 x.1, .int .i64 x.2.1, .int .i64 x.2.2]
theorem encT_len (x : Tri3) : (encT x).length = 3 := rfl
theorem encT_one (x : Tri3) : ∀ v ∈ encT x, v.oneCell' = true := by
  intro v hv
  simp [encT] at hv
  rcases hv with rfl | rfl | rfl <;> rfl

theorem compareInt_lt {x y : Int} : Lib.compareInt x y < 0 ↔ x < y := by
  unfold Lib.compareInt
  by_cases h1 : x < y
  · simp [h1]
  · by_cases h2 : x > y
    · simp [h1, h2]
    · simp [h1, h2]
theorem cmpT_lt (x y : Tri3) : cmpT x y < 0 ↔ ltT x y := by
  unfold cmpT ltT
  split
  · rw [compareInt_lt]; omega
  · split
    · rw [compareInt_lt]; omega
    · rw [compareInt_lt]; omega
theorem ltOf_cmpT (x y : Tri3) : ltOf cmpT x y = true ↔ ltT x y := by
  unfold ltOf
  rw [decide_eq_true_eq]
  exact cmpT_lt x y
theorem ltOf_cmpT' (x y : Tri3) : ltOf cmpT x y = false ↔ ¬ltT x y := by
  rw [← ltOf_cmpT]; simp
theorem swoT : SWO (ltOf cmpT) where
  irrefl x := (ltOf_cmpT' x x).2 (ltT_irr x)
  trans x y z h1 h2 := (ltOf_cmpT x z).2 (ltT_trans x y z ((ltOf_cmpT x y).1 h1) ((ltOf_cmpT y z).1 h2))
  ntrans x y z h1 h2 := by
    rw [ltOf_cmpT'] at *
    unfold ltT at *
    omega

theorem enters_triCmp : ∀ args w, (callFunc 138 args).run Tryz.prog w = .ok (.enter 138 args) w := enters_of Tryz.func138 (by kernel_rfl) rfl

theorem sortFuncTri {base : Nat} (l : List Tri3) (v : Value) (kb : Nat) (w : World) (h : w.ownsRow base 45 3 v l.length (cellsK encT l)) (hk : w.cell? ⟨kb, 0, none⟩ = some (.func (.func 68) #[] #[])) (hne : v.ownBlock ≠ some kb) (hl : l.length ≤ 4611686018427387900) :
    Calls Tryz.prog 137 #[v, .func (.func 138) #[] #[.pointer (some ⟨kb, 0, none⟩)]] w fun r w' =>
      r = .returned (.tuple #[]) ∧ ∃ l' : List Tri3, l'.Perm l ∧ l'.Pairwise (fun x y => ¬ltT y x) ∧ w'.ownsRow base 45 3 v l.length (cellsK encT l') ∧ w.grownBy w' v.ownBlock := by
  rcases h.2 with ⟨rfl, h0⟩ | ⟨g, cap, cur, rfl, hb, hh, hn, hm, hs, ht⟩
  · have hnil : l = [] := List.length_eq_zero_iff.1 h0
    subst hnil
    have hc := AnyF.slices_SortFunc_none (P := Tryz.prog) Tryz.sortTri none 0 (.func (.func 138) #[] #[.pointer (some ⟨kb, 0, none⟩)]) w
    change Calls Tryz.prog 137 _ _ _ at hc
    refine hc.mono ?_
    rintro r w' ⟨rfl, rfl⟩
    exact ⟨rfl, [], List.Perm.refl _, List.Pairwise.nil, h, ⟨rfl, rfl, rfl, Nat.le_refl _, fun _ _ _ => rfl⟩⟩
  · have hkb : kb ≠ g := fun e => hne (by rw [e]; rfl)
    have hkl := World.block_lt_of_cell? _ _ hk
    have hgl : g < w.heap.size := (Array.getElem?_eq_some_iff.1 hh).1
    have hcmp : CmpLays Tryz.prog 138 #[.pointer (some ⟨kb, 0, none⟩)] encT 3 cmpT g 0 l.toArray.size w := by
      intro m os dk _ x y
      refine (triCmp_walk kb x y _ ?_).mono ?_
      · unfold sortWorldK
        rw [cell?_grow _ _ _ (by show kb < (putRowK _ _ _ _ _ _).heap.size; rw [size_putRowK]; exact hkl), cell?_putRowK_other _ _ _ _ _ _ _ hkb]
        exact hk
      · rintro r w' ⟨he, q, os', hw⟩
        exact ⟨he, q, os', hw⟩
    have hcon := AnyQ.slices_SortFunc (P := Tryz.prog) Tryz.sortTri 3 Tryz.isAgg45 Tryz.sizeOf45 encT encT_len encT_one cmpT swoT 138 #[.pointer (some ⟨kb, 0, none⟩)] g 0 cap l.toArray w enters_triCmp hcmp (owns_holdsK encT_len h) hgl (by rw [List.size_toArray]; omega)
    change Calls Tryz.prog 137 _ _ _ at hcon
    rw [List.size_toArray] at hcon
    refine hcon.mono ?_
    rintro r w' ⟨rfl, d, n, os, hp, hsd, rfl⟩
    have hds : d.size = l.length := by have := hp.1; simpa using this
    obtain ⟨o1, o2⟩ := sort_back encT_len h d n os hds
    refine ⟨rfl, d.toList, permIn_list hp, ?_, o1, o2⟩
    refine List.Pairwise.imp ?_ (sortedIn_list hds hsd)
    intro x y hxy
    exact fun e => hxy ((ltOf_cmpT y x).2 e)

set_option maxRecDepth 100000 in
set_option maxHeartbeats 1000000 in
theorem sortedTri_walk {base : Nat} (l : List Tri3) (v : Value) (w : World) (h : w.ownsRow base 45 3 v l.length (cellsK encT l)) (hl : l.length ≤ 4611686018427387900) :
    Calls Tryz.prog 67 #[v, .func (.func 68) #[] #[]] w fun r w' =>
      r = .returned v ∧ ∃ l' : List Tri3, l'.Perm l ∧ l'.Pairwise (fun x y => ¬ltT y x) ∧ w'.ownsRow base 45 3 v l.length (cellsK encT l') ∧ w.grownBy w' v.ownBlock := by
  have hc := sortFuncTri l v w.heap.size (w.alloc (.cells #[.func (.func 68) #[] #[]] 119)) (h.alloc _) (by rw [World.cell?_alloc_at _ _ _ _ rfl]; rfl) (fun e => by have := (h.lt _ e).2; omega) hl
  have HC := Lib.hid hc
  have HS : Hid (∀ w', (w.alloc (.cells #[.func (.func 68) #[] #[]] 119)).grownBy w' v.ownBlock → w.grownBy w' v.ownBlock) := fun w' hg =>
    ⟨hg.os, hg.tape, hg.output, Nat.le_trans (by simp) hg.size, fun i hi hne => (hg.block i (by simp; omega) hne).trans (((Below.refl _ w).alloc (Nat.le_refl _) _).block i hi)⟩
  clear hc h
  go_enter Tryz.func67, Tryz.ntmps67
  go_wp2_with (go_at_call 137; refine HC.out.mono ?_; rintro r w1 ⟨rfl, l', h1, h2, h3, h4⟩)
  go_ret
  exact ⟨rfl, l', h1, h2, h3, HS.out _ h4⟩

end Go.Proofs.YtdoaniccefdkaaaGreatDoor

/- (*Mesh).Tris. -/
namespace Go.Proofs.YtdoaniccefdkaaaGreatDoor
open Go.RowKit Go.Maps Go.WideMaps

theorem infoTri : (Tryz.prog.info? 45).map (fun i => (i.zero, i.size, i.bytes)) = some (some (.agg #[.int .i64 0, .int .i64 0, .int .i64 0]), 3, 24) := by kernel_rfl

theorem addr_add0 (n j : Nat) : ((⟨n, 0, none⟩ : Addr).add j) = ⟨n, j, none⟩ := by rw [Addr.add_lit, Nat.zero_add]

/-- what the next round of a range over edges stands on -/
theorem range_round {k e : Nat} {w wr w1 W w2 : World} {ba r n : Nat} {f : Value → Option Value} {lf : Value → Bool} {cnt base : Nat} {v : Value} {xs : List Value} {m : Nat}
    (hr : w.heap.size = r) (hba : ba < w.heap.size) (hb : w.heap.size < base) (hbw : Below w.heap.size w wr) (hg1 : wr.grownBy w1 (some r)) (hrg1 : FRange Tryz.prog w1 117 ba r n f lf cnt) (hb1 : Below w1.heap.size w1 W)
    (hv : w1.ownsRow base e k v m xs) (hg2 : W.grownBy w2 v.ownBlock) : FRange Tryz.prog w2 117 ba r n f lf cnt ∧ Below w.heap.size w w2 := by
  have hlt := hv.lt
  have n1 : some ba ≠ v.ownBlock := fun e => by have := (hlt _ e.symm).1; omega
  have n2 : some r ≠ v.ownBlock := fun e => by have := (hlt _ e.symm).1; omega
  have g0 : w1.grownBy W none := ⟨hb1.os, hb1.tape, hb1.output, hb1.size, fun i hi _ => hb1.block i hi⟩
  have s0 := hbw.size
  have s1 := hg1.size
  have s2 := hb1.size
  refine ⟨(hrg1.kept g0 (by simp) (by simp)).kept hg2 n1 n2, ?_⟩
  refine Below.grown ?_ hg2 (by omega) (fun j hj => by have := (hlt _ hj).1; omega)
  exact (hbw.grown hg1 s0 (fun j hj => by cases hj; omega)).trans (hb1.mono (by omega))

theorem tris_short {ap : Int → Int → Option Int} {n : Nat} {L : List Tri3} (hl : n ≤ 1048576) (hn : L.Nodup) (hm : ∀ y, y ∈ L ↔ y ∈ trisL ap n) : L.length ≤ 4611686018427387900 := by
  have h1 := nodup_len L _ hn fun y hy => (hm y).1 hy
  have h2 : (trisL ap n).length ≤ n * n := by
    unfold trisL
    rw [List.length_map]
    exact Nat.le_trans (List.length_filter_le _ _) (Nat.le_of_eq (idxL_len n))
  have h3 : n * n ≤ 1048576 * 1048576 := Nat.mul_le_mul hl hl
  omega

theorem tri_len {ap : Int → Int → Option Int} {n : Nat} {lf : Value → Bool} {L : List Tri3} (hl : n ≤ 1048576) (hw : Within ap n) (h : GotG ap (triG ap) lf L) : L.length ≤ 1099511627776 := by
  have h1 := nodup_len L (trisL ap n) h.1 fun y hy => by
    obtain ⟨x, a, b, _⟩ := (h.2 y).1 hy
    exact (triG_mem hw y).1 ⟨x, a, b⟩
  have h2 : (trisL ap n).length ≤ n * n := by
    unfold trisL
    rw [List.length_map]
    exact Nat.le_trans (List.length_filter_le _ _) (Nat.le_of_eq (idxL_len n))
  have h3 : n * n ≤ 1048576 * 1048576 := Nat.mul_le_mul hl hl
  omega

set_option maxRecDepth 100000 in
set_option maxHeartbeats 2000000 in
theorem tris_walk {w : World} {mb n : Nat} {M : MeshM} {F : Nat → Prop} (h : MeshAt w mb n M F) (hw : Within M.ap M.P.length) (hl : M.P.length ≤ 1048576) :
    Calls Tryz.prog 18 #[.pointer (some ⟨mb, 0, none⟩)] w fun r w' => ∃ v, r = .returned v ∧ w'.ownsRow (w.heap.size + 1) 45 3 v (trisL M.ap M.P.length).length (cellsK encT (trisL M.ap M.P.length)) ∧ Below w.heap.size w w' := by
  obtain ⟨ba, bs, bf, pv, sv, h⟩ := h
  have c1 := h.c1
  have HF := Lib.hid h.apm
  have HBA := Lib.hid (h.flt ba h.fba)
  have HW := Lib.hid hw
  have HL := Lib.hid hl
  clear h hw hl
  obtain ⟨i0, hi, hz0, hz1, hz2⟩ := info_parts infoTri
  go_enter Tryz.func18, Tryz.ntmps18
  go_wp2_with (at_range; refine wp_range _ rfl _ 113 rfl 117 3 edgeLaw Tryz.underlying113 ba n _ rfl HF.out ?_; intro w0 hrg0 hg0 hs0)
  go_frame
  have HR0 := Lib.hid hrg0
  have HG0 := Lib.hid hg0
  have HS0 := Lib.hid hs0
  clear hrg0 hg0 hs0
  go_loopw [3] (fun s3 wr => ∃ (L : List Tri3) (lf : Value → Bool) (cnt : Nat), Hid (FRange Tryz.prog wr 117 ba w.heap.size n (edgeV M.ap) lf cnt) ∧ Hid (wr.ownsRow (w.heap.size + 1) 45 3 s3 L.length (cellsK encT L)) ∧ Hid (GotG M.ap (triG M.ap) lf L) ∧ Hid (Below w.heap.size w wr)) (fun _ wr => wr.rangeLeft ba w.heap.size)
  case atStart =>
    refine ⟨[], _, _, HR0.out, World.ownsRow_nil _ _ _ _, GotG.start (fun a b hab => ?_), ?_⟩
    · rw [edgeV_isSome]; exact Option.isSome_iff_ne_none.2 hab
    · exact (Below.refl _ w).grown HG0.out (Nat.le_refl _) (fun j hj => by cases hj)
  case round =>
    obtain ⟨L, lf, cnt, HR, HO, HGO, HB⟩ := hrel
    go_wp2_with (first | (at_next; refine wp_next _ rfl _ rfl 117 edgeLaw (fun x : Int × Int => kE x.1 x.2) vI ba w.heap.size n (edgeV M.ap) (fun key h => edgeV_ne h) (fun key v h => edgeV_val h) lf cnt rfl HR.out ?_ ?_) | go_in)
    · intro hd
      have HM : Hid (∀ y, y ∈ L ↔ y ∈ trisL M.ap M.P.length) := fun y => (HGO.out.done hd y).trans (triG_mem HW.out y)
      have HND := Lib.hid HGO.out.1
      clear hd
      have HSO := Lib.hid (sortedTri_walk L u3 wr HO.out (tris_short HL.out HND.out HM.out))
      go_wp2_with (go_at_call 67; refine HSO.out.mono ?_; rintro r w2 ⟨rfl, l', h1, h2, h3, h4⟩)
      go_ret
      have e : l' = trisL M.ap M.P.length := pw_unique ltT_irr ltT_trans _ _ (pw_strict ltT_tot l' (h1.nodup_iff.2 HND.out) h2) (trisL_sorted _ _) fun y => h1.mem_iff.trans (HM.out y)
      have el : L.length = (trisL M.ap M.P.length).length := by rw [← e, h1.length_eq]
      refine ⟨_, rfl, ?_, HB.out.grown h4 HB.out.size (fun j hj => by have := (HO.out.lt _ hj).1; omega)⟩
      rw [← el, ← e]
      exact h3
    · intro a b c w1 cnt1 lf1 hlx hfx hl1 hl2 hrg1 hlt1 hg1 hs1 hen
      have HX1 := Lib.hid (edgeV_some hfx)
      have HRG := Lib.hid hrg1
      have HG1 := Lib.hid hg1
      have HLT : Hid (w1.rangeLeft ba w.heap.size < wr.rangeLeft ba w.heap.size) := by unfold Hid; rw [hrg1.left_eq, HR.out.left_eq]; exact hlt1
      have HO1 : Hid (w1.ownsRow (w.heap.size + 1) 45 3 u3 L.length (cellsK encT L)) := HO.out.kept HG1.out (by
        cases hv : u3.ownBlock with
        | none => exact .inl rfl
        | some g => right; intro e; cases e; have := (HO.out.lt _ hv).1; omega)
      have HLX := Lib.hid hlx
      have HL1 := Lib.hid hl1
      have HL2 := Lib.hid hl2
      clear hlx hfx hl1 hl2 hrg1 hlt1 hg1 hs1
      simp only [kE, vI] at hen
      have HLEN := Lib.hid (tri_len HL.out HW.out HGO.out)
      have HRK : Hid (FRange Tryz.prog (w1.alloc (.cells #[.int .i64 a, .int .i64 b] 117)) 117 ba w.heap.size n (edgeV M.ap) lf1 cnt1) := HRG.out.kept (World.grownBy_alloc _ _ none) (by simp) (by simp)
      have HBK : Hid (Below w.heap.size w (w1.alloc (.cells #[.int .i64 a, .int .i64 b] 117))) :=
        (HB.out.grown HG1.out HB.out.size (fun j hj => by cases hj; omega)).alloc (by have := HB.out.size; have := HG1.out.size; omega) _
      by_cases q1 : a < b
      · by_cases q2 : a < c
        · have HGA : Hid (GotG M.ap (triG M.ap) lf1 (L ++ [(a, b, c)])) := HGO.out.add triG_inj (x := (a, b)) (by dsimp only; rw [HX1.out]; simp) HLX.out (by unfold triG leadB triOf; dsimp only; rw [HX1.out]; simp [q1, q2]) HL1.out HL2.out
          go_wp2_with (first | (at_builtin; refine wpList_append_own _ rfl _ _ 23 rfl (w.heap.size + 1) 45 i0 (.agg #[.int .i64 0, .int .i64 0, .int .i64 0]) 3 24 Tryz.underlying23 hi hz0 hz1 hz2 rfl (by decide) u3 L.length (cellsK encT L) rfl ((HO1.out.alloc _).alloc _) ⟨w1.heap.size + 1, 0, none⟩ 1 1 (encT (a, b, c)) rfl ?qc1 ?qc2 ?qc3 ?qc4 ?qc5 ?qc6 ?_) | go_in)
          case qc1 => rfl
          case qc2 =>
            intro j u hj
            have := cells_new (w1.alloc (.cells #[.int .i64 a, .int .i64 b] 117)) (encT (a, b, c)) 45 j u hj
            simpa [encT] using this
          case qc3 => exact encT_one _
          case qc4 => have := HLEN.out; unfold maxLen; omega
          case qc5 => have := HLEN.out; omega
          case qc6 => have := HB.out.size; have := HG1.out.size; have := (HO1.out); simp; omega
          intro v' w2 hown hgrow hnil
          obtain ⟨f1, f2⟩ := range_round rfl HBA.out (Nat.lt_succ_self _) HB.out HG1.out HRG.out (((Below.refl _ w1).alloc (Nat.le_refl _) _).alloc (by simp) _) HO1.out hgrow
          have HF1 := Lib.hid f1
          have HF2 := Lib.hid f2
          have HOW : Hid (w2.ownsRow (w.heap.size + 1) 45 3 v' (L ++ [(a, b, c)]).length (cellsK encT (L ++ [(a, b, c)]))) := by
            unfold Hid; rw [cellsK_append, cellsK_one, List.length_append]; exact hown
          clear f1 f2 hown hgrow hnil
          go_wp2
          go_roundw
          case rel => exact ⟨L ++ [(a, b, c)], lf1, cnt1, HF1.out, HOW.out, HGA, HF2.out⟩
          case measure => rw [HF1.out.left_eq, ← HRG.out.left_eq]; exact HLT.out
        · -- not led by the least
          have HGA : Hid (GotG M.ap (triG M.ap) lf1 L) := HGO.out.skip (x := (a, b)) (by unfold triG leadB; dsimp only; rw [HX1.out]; simp [q1, q2]) HL2.out
          go_wp2
          go_roundw
          case rel => exact ⟨L, lf1, cnt1, HRK.out, HO1.out.alloc _, HGA, HBK.out⟩
          case measure => rw [HRK.out.left_eq, ← HRG.out.left_eq]; exact HLT.out
      · -- not led by the least
        have HGA : Hid (GotG M.ap (triG M.ap) lf1 L) := HGO.out.skip (x := (a, b)) (by unfold triG leadB; dsimp only; rw [HX1.out]; simp [q1]) HL2.out
        go_wp2
        go_roundw
        case rel => exact ⟨L, lf1, cnt1, HRK.out, HO1.out.alloc _, HGA, HBK.out⟩
        case measure => rw [HRK.out.left_eq, ← HRG.out.left_eq]; exact HLT.out

end Go.Proofs.YtdoaniccefdkaaaGreatDoor

/- mesh.sorted at pairs: the closures. -/
namespace Go.Proofs.YtdoaniccefdkaaaGreatDoor
open Go.RowKit

def vP (x : Int × Int) : Value := .agg #[.int .i64 x.1, .int .i64 x.2]

theorem pairKey_walk (x : Int × Int) (w : World) :
    Calls Tryz.prog 161 #[vP x] w fun e w' => e = .returned (vT (x.1, x.2, 0)) ∧ w' = ((w.alloc (.cells #[.int .i64 x.1, .int .i64 x.2] 62)).alloc (.cells #[.int .i64 x.1, .int .i64 x.2, .int .i64 0] 44)) := by
  obtain ⟨a, b⟩ := x
  unfold vP vT
  go_enter Tryz.func161, Tryz.ntmps161
  go_wp2
  go_returns
  exact ⟨rfl, rfl⟩

/-- what the closure of mesh.sorted reads -/
def CmpS2 (w : World) (kb : Nat) (k : Value) (b c : Nat) (x y : Int × Int) : Prop := w.cell? ⟨kb, 0, none⟩ = some k ∧ w.cell? ⟨b, 0, none⟩ = some (.int .i64 x.1) ∧ w.cell? ⟨b, 1, none⟩ = some (.int .i64 x.2)
      ∧ w.cell? ⟨c, 0, none⟩ = some (.int .i64 y.1) ∧ w.cell? ⟨c, 1, none⟩ = some (.int .i64 y.2)
theorem CmpS2.drew {w : World} {kb : Nat} {k : Value} {b c : Nat} {x y : Int × Int} (h : CmpS2 w kb k b c x y) : CmpS2 w.drew kb k b c x y := h
theorem CmpS2.alloc {w : World} {kb : Nat} {k : Value} {b c : Nat} {x y : Int × Int} (h : CmpS2 w kb k b c x y) {o : Obj} : CmpS2 (w.alloc o) kb k b c x y :=
  ⟨Lib.cell?_alloc_some _ h.1, Lib.cell?_alloc_some _ h.2.1, Lib.cell?_alloc_some _ h.2.2.1, Lib.cell?_alloc_some _ h.2.2.2.1, Lib.cell?_alloc_some _ h.2.2.2.2⟩

set_option maxRecDepth 100000 in
set_option maxHeartbeats 8000000 in
theorem pairCmp_walk (kb : Nat) (x y : Int × Int) (w : World) (hk : w.cell? ⟨kb, 0, none⟩ = some (.func (.func 161) #[] #[])) :
    Calls Tryz.prog 204 #[vP x, vP y, .pointer (some ⟨kb, 0, none⟩)] w fun e w' => e = .returned (.int .i64 (cmpT (x.1, x.2, 0) (y.1, y.2, 0))) ∧ Grew w w' := by
  have HX := Lib.hid (pairKey_walk x)
  have HY := Lib.hid (pairKey_walk y)
  have HC := Lib.hid (fun p q => compare_walk p q (x.1, x.2, 0) (y.1, y.2, 0))
  have hkl := World.block_lt_of_cell? _ _ hk
  obtain ⟨x0, x1⟩ := x
  obtain ⟨y0, y1⟩ := y
  unfold vP vT at *
  dsimp only at HX HY HC
  generalize cmpT (x0, x1, 0) (y0, y1, 0) = z at *
  have hB : CmpS2 ((w.alloc (.cells #[.int .i64 x0, .int .i64 x1] 62)).alloc (.cells #[.int .i64 y0, .int .i64 y1] 62)) kb (.func (.func 161) #[] #[]) w.heap.size (w.heap.size + 1) (x0, x1) (y0, y1) := by
    refine ⟨Lib.cell?_alloc_some _ (Lib.cell?_alloc_some _ hk), ?_, ?_, ?_, ?_⟩ <;> simp
  go_enter Tryz.func204, Tryz.ntmps204
  have HB := Lib.hid hB
  clear hB hk
  go_upto_region 1 with fail
  go_cut [6, 7] from 8 to 13 (fun s6 s7 wx => ∃ p q : Nat, s6 = .pointer (some ⟨p, 0, none⟩) ∧ s7 = .pointer (some ⟨q, 0, none⟩) ∧ Hid (CmpC wx p q (x0, x1, 0) (y0, y1, 0)) ∧ Hid (Grew w wx))
  case first =>
    go_region_held3 (fun w' => w'.cell? ⟨kb, 0, none⟩ = some (.func (.func 161) #[] #[]) ∧ w'.cell? ⟨w.heap.size, 0, none⟩ = some (.int .i64 x0) ∧ w'.cell? ⟨w.heap.size, 1, none⟩ = some (.int .i64 x1)
        ∧ w'.cell? ⟨w.heap.size + 1, 0, none⟩ = some (.int .i64 y0) ∧ w'.cell? ⟨w.heap.size + 1, 1, none⟩ = some (.int .i64 y1))
      (first | (change CmpS2 _ kb (.func (.func 161) #[] #[]) w.heap.size (w.heap.size + 1) (x0, x1) (y0, y1); repeat (first | with_reducible exact HB.out | with_reducible apply CmpS2.drew | with_reducible apply CmpS2.alloc)))
      (first
        | (go_at_call 161; (first | (with_reducible refine (HX.out _).mono ?_) | (with_reducible refine (HY.out _).mono ?_)); rintro r w1 ⟨rfl, rfl⟩))
    all_goals
      go_wp2_with fail
      go_meet
      refine ⟨_, _, rfl, rfl, ?_, ?_⟩
      · refine ⟨?_, ?_, ?_, ?_, ?_, ?_⟩ <;> (repeat (first | (refine (World.cell?_alloc_at _ _ _ _ ?_).trans ?_; (focus (simp; done)); rfl) | with_reducible apply Lib.cell?_alloc_some | with_reducible apply cellDrew))
      · unfold Hid
        repeat (first | with_reducible exact Grew.refl _ | with_reducible apply Grew.drewN | with_reducible apply Grew.drew | with_reducible apply Grew.alloc)
  case rest =>
    obtain ⟨p, q, rfl, rfl, HCC, HG⟩ := hcut
    clear HX HY HB
    obtain ⟨p0, p1, p2, q0, q1, q2⟩ := HCC.out
    have HCC2 := Lib.hid (HC.out p q wc.drew p0 p1 p2 q0 q1 q2)
    clear p0 p1 p2 q0 q1 q2
    go_wp2
    go_region_held3 (fun w' => w' = wc.drew) (first | rfl | assumption) (first | (go_at_call 110; refine HCC2.out.mono ?_; rintro r w1 ⟨rfl, rfl⟩))
    go_wp2
    go_ret
    exact ⟨rfl, HG.out.drew⟩

end Go.Proofs.YtdoaniccefdkaaaGreatDoor

/- mesh.sorted at pairs. -/
namespace Go.Proofs.YtdoaniccefdkaaaGreatDoor
open Go.RowKit Go.Maps Go.WideMaps Go.Sort

def encP (x : Int × Int) : List Value := [.int .i64 x.1, .int .i64 x.2]
theorem encP_len (x : Int × Int) : (encP x).length = 2 := rfl
theorem encP_one (x : Int × Int) : ∀ v ∈ encP x, v.oneCell' = true := by
  intro v hv
  simp [encP] at hv
  rcases hv with rfl | rfl <;> rfl
def cmpP (x y : Int × Int) : Int := cmpT (x.1, x.2, 0) (y.1, y.2, 0)
theorem ltOf_cmpP (x y : Int × Int) : ltOf cmpP x y = true ↔ ltP x y := by
  have := ltOf_cmpT (x.1, x.2, 0) (y.1, y.2, 0)
  have e : ltOf cmpP x y = ltOf cmpT (x.1, x.2, 0) (y.1, y.2, 0) := rfl
  rw [e, this]
  unfold ltT ltP
  dsimp only
  omega
theorem ltOf_cmpP' (x y : Int × Int) : ltOf cmpP x y = false ↔ ¬ltP x y := by
  rw [← ltOf_cmpP]; simp
theorem swoP : SWO (ltOf cmpP) where
  irrefl x := (ltOf_cmpP' x x).2 (ltP_irr x)
  trans x y z h1 h2 := (ltOf_cmpP x z).2 (ltP_trans x y z ((ltOf_cmpP x y).1 h1) ((ltOf_cmpP y z).1 h2))
  ntrans x y z h1 h2 := by
    rw [ltOf_cmpP'] at *
    unfold ltP at *
    omega

theorem enters_pairCmp : ∀ args w, (callFunc 204 args).run Tryz.prog w = .ok (.enter 204 args) w := enters_of Tryz.func204 (by kernel_rfl) rfl

theorem sortFuncPair {base : Nat} (l : List (Int × Int)) (v : Value) (kb : Nat) (w : World) (h : w.ownsRow base 62 2 v l.length (cellsK encP l)) (hk : w.cell? ⟨kb, 0, none⟩ = some (.func (.func 161) #[] #[])) (hne : v.ownBlock ≠ some kb) (hl : l.length ≤ 4611686018427387900) :
    Calls Tryz.prog 203 #[v, .func (.func 204) #[] #[.pointer (some ⟨kb, 0, none⟩)]] w fun r w' =>
      r = .returned (.tuple #[]) ∧ ∃ l' : List (Int × Int), l'.Perm l ∧ l'.Pairwise (fun x y => ¬ltP y x) ∧ w'.ownsRow base 62 2 v l.length (cellsK encP l') ∧ w.grownBy w' v.ownBlock := by
  rcases h.2 with ⟨rfl, h0⟩ | ⟨g, cap, cur, rfl, hb, hh, hn, hm, hs, ht⟩
  · have hnil : l = [] := List.length_eq_zero_iff.1 h0
    subst hnil
    have hc := AnyF.slices_SortFunc_none (P := Tryz.prog) Tryz.sortPair none 0 (.func (.func 204) #[] #[.pointer (some ⟨kb, 0, none⟩)]) w
    change Calls Tryz.prog 203 _ _ _ at hc
    refine hc.mono ?_
    rintro r w' ⟨rfl, rfl⟩
    exact ⟨rfl, [], List.Perm.refl _, List.Pairwise.nil, h, ⟨rfl, rfl, rfl, Nat.le_refl _, fun _ _ _ => rfl⟩⟩
  · have hkb : kb ≠ g := fun e => hne (by rw [e]; rfl)
    have hkl := World.block_lt_of_cell? _ _ hk
    have hgl : g < w.heap.size := (Array.getElem?_eq_some_iff.1 hh).1
    have hcmp : CmpLays Tryz.prog 204 #[.pointer (some ⟨kb, 0, none⟩)] encP 2 cmpP g 0 l.toArray.size w := by
      intro m os dk _ x y
      refine (pairCmp_walk kb x y _ ?_).mono ?_
      · unfold sortWorldK
        rw [cell?_grow _ _ _ (by show kb < (putRowK _ _ _ _ _ _).heap.size; rw [size_putRowK]; exact hkl), cell?_putRowK_other _ _ _ _ _ _ _ hkb]
        exact hk
      · rintro r w' ⟨he, q, os', hw⟩
        exact ⟨he, q, os', hw⟩
    have hcon := AnyQ.slices_SortFunc (P := Tryz.prog) Tryz.sortPair 2 Tryz.isAgg62 Tryz.sizeOf62 encP encP_len encP_one cmpP swoP 204 #[.pointer (some ⟨kb, 0, none⟩)] g 0 cap l.toArray w enters_pairCmp hcmp (owns_holdsK encP_len h) hgl (by rw [List.size_toArray]; omega)
    change Calls Tryz.prog 203 _ _ _ at hcon
    rw [List.size_toArray] at hcon
    refine hcon.mono ?_
    rintro r w' ⟨rfl, d, n, os, hp, hsd, rfl⟩
    have hds : d.size = l.length := by have := hp.1; simpa using this
    obtain ⟨o1, o2⟩ := sort_back encP_len h d n os hds
    refine ⟨rfl, d.toList, permIn_list hp, ?_, o1, o2⟩
    refine List.Pairwise.imp ?_ (sortedIn_list hds hsd)
    intro x y hxy
    exact fun e => hxy ((ltOf_cmpP y x).2 e)

set_option maxRecDepth 100000 in
set_option maxHeartbeats 1000000 in
theorem sortedPair_walk {base : Nat} (l : List (Int × Int)) (v : Value) (w : World) (h : w.ownsRow base 62 2 v l.length (cellsK encP l)) (hl : l.length ≤ 4611686018427387900) :
    Calls Tryz.prog 160 #[v, .func (.func 161) #[] #[]] w fun r w' =>
      r = .returned v ∧ ∃ l' : List (Int × Int), l'.Perm l ∧ l'.Pairwise (fun x y => ¬ltP y x) ∧ w'.ownsRow base 62 2 v l.length (cellsK encP l') ∧ w.grownBy w' v.ownBlock := by
  have hc := sortFuncPair l v w.heap.size (w.alloc (.cells #[.func (.func 161) #[] #[]] 207)) (h.alloc _) (by rw [World.cell?_alloc_at _ _ _ _ rfl]; rfl) (fun e => by have := (h.lt _ e).2; omega) hl
  have HC := Lib.hid hc
  have HS : Hid (∀ w', (w.alloc (.cells #[.func (.func 161) #[] #[]] 207)).grownBy w' v.ownBlock → w.grownBy w' v.ownBlock) := fun w' hg =>
    ⟨hg.os, hg.tape, hg.output, Nat.le_trans (by simp) hg.size, fun i hi hne => (hg.block i (by simp; omega) hne).trans (((Below.refl _ w).alloc (Nat.le_refl _) _).block i hi)⟩
  clear hc h
  go_enter Tryz.func160, Tryz.ntmps160
  go_wp2_with (go_at_call 203; refine HC.out.mono ?_; rintro r w1 ⟨rfl, l', h1, h2, h3, h4⟩)
  go_ret
  exact ⟨rfl, l', h1, h2, h3, HS.out _ h4⟩

theorem pairs_walk {base : Nat} (l : List (Int × Int)) (v : Value) (w : World) (h : w.ownsRow base 62 2 v l.length (cellsK encP l)) (hl : l.length ≤ 4611686018427387900) :
    Calls Tryz.prog 112 #[v] w fun r w' =>
      r = .returned v ∧ ∃ l' : List (Int × Int), l'.Perm l ∧ l'.Pairwise (fun x y => ¬ltP y x) ∧ w'.ownsRow base 62 2 v l.length (cellsK encP l') ∧ w.grownBy w' v.ownBlock := by
  have HC := Lib.hid (sortedPair_walk l v w h hl)
  clear h
  go_enter Tryz.func112, Tryz.ntmps112
  go_wp2_with (go_at_call 160; refine HC.out.mono ?_; rintro r w1 ⟨rfl, l', h1, h2, h3, h4⟩)
  go_ret
  exact ⟨rfl, l', h1, h2, h3, h4⟩

end Go.Proofs.YtdoaniccefdkaaaGreatDoor
