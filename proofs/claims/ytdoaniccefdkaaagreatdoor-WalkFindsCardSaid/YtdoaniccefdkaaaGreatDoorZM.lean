/- Part of the proof. No conditions. -/
import Derived.Test.YtdoaniccefdkaaaGreatDoorZ9
import Derived.Test.YtdoaniccefdkaaaGreatDoorZA
import Derived.Test.YtdoaniccefdkaaaGreatDoorZL
import Derived.Shelf.Sort.Plain
import Derived.Shelf.Slices.CompactI
import Derived.Shelf.SlMaps.Clone
import Derived.Ground.NamesProg
import Derived.Ground.Names2Prog
import Derived.Ground.SlmcProg
import Derived.Shelf.SlGeneric
import Derived.Test.YtdoaniccefdkaaaGreatDoorChecked
import Derived.Shelf.SlLaysM
import Derived.Ground.SlgmProg
import Derived.Shelf.SortM.SortNone
import Derived.Shelf.SlLaysH
import Derived.Shelf.SlLaysC2
import Derived.Ground.SlgfProg
import Derived.Ground.SlgcProg
import Derived.Shelf.SlicesE.DeleteFunc
import Derived.Laws.AppendOwn

set_option linter.all false
/- Ranging over the edges: what has come, as a list. -/
namespace Go.Proofs.YtdoaniccefdkaaaGreatDoor
open Go.RowKit Go.Maps Go.WideMaps

/-- what a range over edges has brought so far -/
def GotG {α : Type} (f : Int → Int → Option Int) (g : Int × Int → Option α) (lf : Value → Bool) (L : List α) : Prop :=
  L.Nodup ∧ ∀ y, y ∈ L ↔ ∃ x : Int × Int, f x.1 x.2 ≠ none ∧ g x = some y ∧ lf (kE x.1 x.2) = false

section
variable {α : Type} {f : Int → Int → Option Int} {g : Int × Int → Option α} {lf lf' : Value → Bool} {L : List α}

theorem GotG.start (h : ∀ a b, f a b ≠ none → lf (kE a b) = true) : GotG f g lf [] := by
  refine ⟨List.Pairwise.nil, fun y => ⟨fun h => (nomatch h), ?_⟩⟩
  rintro ⟨x, h1, _, h2⟩
  rw [h _ _ h1] at h2; cases h2

theorem GotG.skip (h : GotG f g lf L) {x : Int × Int} (hx : g x = none) (h2 : ∀ y, y ≠ kE x.1 x.2 → lf' y = lf y) : GotG f g lf' L := by
  refine ⟨h.1, fun y => ?_⟩
  rw [h.2 y]
  constructor
  · rintro ⟨z, a, b, c⟩
    have hz : kE z.1 z.2 ≠ kE x.1 x.2 := fun e => by
      rw [kE_inj] at e
      have : z = x := Prod.ext e.1 e.2
      rw [this, hx] at b; cases b
    exact ⟨z, a, b, by rw [h2 _ hz]; exact c⟩
  · rintro ⟨z, a, b, c⟩
    have hz : kE z.1 z.2 ≠ kE x.1 x.2 := fun e => by
      rw [kE_inj] at e
      have : z = x := Prod.ext e.1 e.2
      rw [this, hx] at b; cases b
    exact ⟨z, a, b, by rw [← h2 _ hz]; exact c⟩

theorem GotG.add (h : GotG f g lf L) (inj : ∀ x x' y, f x.1 x.2 ≠ none → f x'.1 x'.2 ≠ none → g x = some y → g x' = some y → x = x') {x : Int × Int} {y : α} (hf : f x.1 x.2 ≠ none) (hl : lf (kE x.1 x.2) = true) (hx : g x = some y)
    (h1 : lf' (kE x.1 x.2) = false) (h2 : ∀ y, y ≠ kE x.1 x.2 → lf' y = lf y) : GotG f g lf' (L ++ [y]) := by
  have hy : y ∉ L := fun hm => by
    obtain ⟨z, a, b, c⟩ := (h.2 y).1 hm
    have := inj z x y a hf b hx
    subst this
    rw [hl] at c; cases c
  refine ⟨?_, fun z => ?_⟩
  · unfold List.Nodup
    rw [List.pairwise_append]
    refine ⟨h.1, List.pairwise_singleton _ _, fun a ha b hb => ?_⟩
    rw [List.mem_singleton] at hb
    subst hb
    exact fun e => hy (e ▸ ha)
  · rw [List.mem_append, List.mem_singleton, h.2 z]
    constructor
    · rintro (⟨u, a, b, c⟩ | rfl)
      · have hu : kE u.1 u.2 ≠ kE x.1 x.2 := fun e => by
          rw [e, hl] at c; cases c
        exact ⟨u, a, b, by rw [h2 _ hu]; exact c⟩
      · exact ⟨x, hf, hx, h1⟩
    · rintro ⟨u, a, b, c⟩
      by_cases hu : kE u.1 u.2 = kE x.1 x.2
      · rw [kE_inj] at hu
        have : u = x := Prod.ext hu.1 hu.2
        subst this
        rw [hx] at b; cases b
        exact .inr rfl
      · exact .inl ⟨u, a, b, by rw [← h2 _ hu]; exact c⟩

theorem GotG.done (h : GotG f g lf L) (hd : ∀ k, lf k = false) (y : α) : y ∈ L ↔ ∃ x : Int × Int, f x.1 x.2 ≠ none ∧ g x = some y := by
  rw [h.2 y]
  constructor
  · rintro ⟨x, a, b, _⟩; exact ⟨x, a, b⟩
  · rintro ⟨x, a, b⟩; exact ⟨x, a, b, hd _⟩

/-- a list whose members are told apart is no longer than one that holds them -/
theorem nodup_len [DecidableEq α] : ∀ (L S : List α), L.Nodup → (∀ y, y ∈ L → y ∈ S) → L.length ≤ S.length
  | [], _, _, _ => Nat.zero_le _
  | x :: r, S, hn, hs => by
    have hn' := List.pairwise_cons.1 hn
    have hx := hs x (List.mem_cons_self ..)
    have ih := nodup_len r (S.erase x) hn'.2 fun y hy => (List.mem_erase_of_ne (fun e => hn'.1 y hy e.symm)).2 (hs y (List.mem_cons_of_mem _ hy))
    have := List.length_erase_of_mem hx
    have hp : 0 < S.length := List.length_pos_of_mem hx
    rw [List.length_cons]; omega
end

theorem idxL_len (n : Nat) : (idxL n).length = n * n := by
  unfold idxL
  rw [List.length_flatMap]
  simp only [List.length_map, List.length_range, List.map_const', List.sum_replicate_nat]

theorem edgeV_val {f : Int → Int → Option Int} {k v : Value} (h : edgeV f k = some v) : ∃ c, v = vI c := by
  obtain ⟨x, rfl⟩ := edgeV_ne (f := f) (v := k) (by rw [h]; simp)
  rw [edgeV_at] at h
  cases e : f x.1 x.2 with
  | none => rw [e] at h; cases h
  | some c => rw [e] at h; cases h; exact ⟨c, rfl⟩

theorem edgeV_some {f : Int → Int → Option Int} {a b c : Int} (h : edgeV f (kE a b) = some (vI c)) : f a b = some c := by
  rw [edgeV_at] at h
  cases e : f a b with
  | none => rw [e] at h; cases h
  | some d => rw [e] at h; simp [vI] at h; rw [h]

/-- a block that is made holds what it is made with -/
theorem cells_new (w : World) (cs : List Value) (t : TypeId) : ∀ j u, cs[j]? = some u → (w.alloc (.cells cs.toArray t)).cell? ((⟨w.heap.size, 0, none⟩ : Addr).add j) = some u := by
  intro j u hu
  rw [Addr.add_lit, World.cell?_alloc_at _ _ _ _ rfl]
  simpa using hu

/-! ### the three lists -/
def triG (ap : Int → Int → Option Int) (x : Int × Int) : Option Tri3 := if leadB ap x = true then some (triOf ap x) else none
def bordG (ap : Int → Int → Option Int) (x : Int × Int) : Option (Int × Int) := if inB ap (sw x) = true then none else some x
def edgeG (ap : Int → Int → Option Int) (x : Int × Int) : Option (Int × Int) := if x.1 < x.2 ∨ inB ap (sw x) = false then some (minI x.1 x.2, maxI x.1 x.2) else none

theorem inB_iff {ap : Int → Int → Option Int} {x : Int × Int} : inB ap x = true ↔ ap x.1 x.2 ≠ none := by
  unfold inB; cases ap x.1 x.2 <;> simp

theorem triG_mem {ap : Int → Int → Option Int} {n : Nat} (hw : Within ap n) (y : Tri3) : (∃ x : Int × Int, ap x.1 x.2 ≠ none ∧ triG ap x = some y) ↔ y ∈ trisL ap n := by
  unfold trisL
  rw [List.mem_map]
  constructor
  · rintro ⟨x, h1, h2⟩
    unfold triG at h2
    split at h2
    · rename_i hl
      cases h2
      exact ⟨x, List.mem_filter.2 ⟨mem_idxL.2 (hw _ _ h1), hl⟩, rfl⟩
    · cases h2
  · rintro ⟨x, h1, rfl⟩
    have h2 := List.mem_filter.1 h1
    exact ⟨x, inB_iff.1 (lead_in h2.2), by unfold triG; rw [if_pos h2.2]⟩
theorem bordG_mem {ap : Int → Int → Option Int} {n : Nat} (hw : Within ap n) (y : Int × Int) : (∃ x : Int × Int, ap x.1 x.2 ≠ none ∧ bordG ap x = some y) ↔ y ∈ bordL ap n := by
  rw [mem_bordL hw]
  unfold bordB
  constructor
  · rintro ⟨x, h1, h2⟩
    unfold bordG at h2
    split at h2
    · cases h2
    · rename_i hl
      cases h2
      simp only [Bool.and_eq_true, Bool.not_eq_true']
      refine ⟨inB_iff.2 h1, ?_⟩
      cases e : inB ap (y.2, y.1)
      · rfl
      · exact absurd e hl
  · intro h
    simp only [Bool.and_eq_true, Bool.not_eq_true'] at h
    refine ⟨y, inB_iff.1 h.1, ?_⟩
    unfold bordG
    rw [if_neg]
    show ¬inB ap (y.2, y.1) = true
    rw [h.2]; simp
theorem edgeG_mem {ap : Int → Int → Option Int} {n : Nat} (hw : Within ap n) (hr : Rot ap) (y : Int × Int) : (∃ x : Int × Int, ap x.1 x.2 ≠ none ∧ edgeG ap x = some y) ↔ y ∈ edgeL ap n := by
  rw [mem_edgeL hw]
  unfold edgeB
  have ne : ∀ a b, ap a b ≠ none → a ≠ b := fun a b h => by
    obtain ⟨c, hc⟩ := Option.ne_none_iff_exists'.1 h
    exact (hr.ne _ _ _ hc).1
  constructor
  · rintro ⟨x, h1, h2⟩
    have hne := ne _ _ h1
    unfold edgeG at h2
    split at h2
    · rename_i hl
      cases h2
      unfold minI maxI
      by_cases hq : x.1 ≤ x.2
      · rw [if_pos hq, if_pos hq]
        simp only [Bool.and_eq_true, Bool.or_eq_true, decide_eq_true_eq]
        exact ⟨by omega, .inl (inB_iff.2 h1)⟩
      · rw [if_neg hq, if_neg hq]
        simp only [Bool.and_eq_true, Bool.or_eq_true, decide_eq_true_eq]
        exact ⟨by omega, .inr (inB_iff.2 h1)⟩
    · cases h2
  · intro h
    simp only [Bool.and_eq_true, Bool.or_eq_true, decide_eq_true_eq] at h
    by_cases hi : inB ap y = true
    · refine ⟨y, inB_iff.1 hi, ?_⟩
      unfold edgeG minI maxI
      rw [if_pos (.inl h.1), if_pos (by omega), if_pos (by omega)]
    · have h2 := h.2.resolve_left hi
      refine ⟨sw y, inB_iff.1 h2, ?_⟩
      unfold edgeG minI maxI sw
      rw [if_pos (.inr (by simpa using hi)), if_neg (by dsimp only; omega), if_neg (by dsimp only; omega)]

theorem triG_inj {ap : Int → Int → Option Int} (x x' : Int × Int) (y : Tri3) (_ : ap x.1 x.2 ≠ none) (_ : ap x'.1 x'.2 ≠ none) (h1 : triG ap x = some y) (h2 : triG ap x' = some y) : x = x' := by
  unfold triG at h1 h2
  split at h1
  · split at h2
    · cases h1
      simp only [Option.some.injEq, triOf, Prod.mk.injEq] at h2
      exact Prod.ext h2.1.symm h2.2.1.symm
    · cases h2
  · cases h1
theorem bordG_inj {ap : Int → Int → Option Int} (x x' : Int × Int) (y : Int × Int) (_ : ap x.1 x.2 ≠ none) (_ : ap x'.1 x'.2 ≠ none) (h1 : bordG ap x = some y) (h2 : bordG ap x' = some y) : x = x' := by
  unfold bordG at h1 h2
  split at h1
  · cases h1
  · split at h2
    · cases h2
    · cases h1; cases h2; rfl
theorem edgeG_inj {ap : Int → Int → Option Int} (x x' : Int × Int) (y : Int × Int) (f1 : ap x.1 x.2 ≠ none) (f2 : ap x'.1 x'.2 ≠ none) (h1 : edgeG ap x = some y) (h2 : edgeG ap x' = some y) : x = x' := by
  unfold edgeG at h1 h2
  split at h1
  · rename_i k1
    split at h2
    · rename_i k2
      cases h1
      simp only [Option.some.injEq, Prod.mk.injEq] at h2
      obtain ⟨a, b⟩ := x; obtain ⟨c, d⟩ := x'
      unfold minI maxI at h2
      dsimp only at h2 k1 k2 f1 f2
      by_cases e : a = c ∧ b = d
      · exact Prod.ext e.1 e.2
      · exfalso
        have e2 : a = d ∧ b = c := by
          obtain ⟨h3, h4⟩ := h2
          split at h3 <;> split at h3 <;> simp_all <;> omega
        obtain ⟨rfl, rfl⟩ := e2
        have g1 : inB ap (sw (a, b)) = true := inB_iff.2 f2
        have g2 : inB ap (sw (b, a)) = true := inB_iff.2 f1
        rw [g1] at k1; rw [g2] at k2
        simp at k1 k2
        omega
    · cases h2
  · cases h1

end Go.Proofs.YtdoaniccefdkaaaGreatDoor

/-
  DERIVED: THE SHELF's CONTRACTS AT THIS DUMP, IN PLAIN WORDS (tools/lay-plain.mjs out of 'YtdoaniccefdkaaaGreatDoorSh3.lean', which tools/lay-shelf.mjs wrote): THE SAME DECLARATIONS UNDER THE SAME NAMES: 'import', 'namespace', 'open', 'def', 'theorem' AND NOTHING ELSE: no command of the shelf's: FOR A HAND-IN. Each laying: the table of numbers ('.._ren') and one theorem, a field a fact of the dump's own or the kernel's comparison; each contract: ONE APPLICATION.
-/
namespace Go.Proofs
open Go.Shelf
def Tryz.sortInt_ren : Go.Shelf.Ren := ⟨fun | 189 => 121 | 125 => 167 | 257 => 166 | 128 => 216 | 129 => 217 | 294 => 207 | 295 => 208 | 296 => 209 | 297 => 210 | 298 => 211 | 299 => 212 | 216 => 213 | 300 => 214 | 301 => 215 | 328 => 269 | 329 => 270 | 330 => 271 | 331 => 272 | 332 => 273 | 215 => 202 | 343 => 320 | n => n, fun | 28 => 72 | 3 => 3 | 46 => 205 | 0 => 0 | 51 => 243 | 53 => 83 | 4 => 4 | 183 => 249 | 182 => 248 | 131 => 32 | 5 => 5 | 9 => 9 | 218 => 286 | 222 => 290 | 228 => 316 | 229 => 308 | n => n, fun | n => n⟩
theorem Tryz.sortInt : Go.Proofs.Lays.n189 Tryz.prog Tryz.sortInt_ren := {
  mixed := by kernel_rfl
  f125 := Tryz.func167.trans (congrArg some (by kernel_rfl))
  f128 := Tryz.func216.trans (congrArg some (by kernel_rfl))
  f129 := Tryz.func217.trans (congrArg some (by kernel_rfl))
  f189 := Tryz.func121.trans (congrArg some (by kernel_rfl))
  f215 := Tryz.func202.trans (congrArg some (by kernel_rfl))
  f216 := Tryz.func213.trans (congrArg some (by kernel_rfl))
  f257 := Tryz.func166.trans (congrArg some (by kernel_rfl))
  f294 := Tryz.func207.trans (congrArg some (by kernel_rfl))
  f295 := Tryz.func208.trans (congrArg some (by kernel_rfl))
  f296 := Tryz.func209.trans (congrArg some (by kernel_rfl))
  f297 := Tryz.func210.trans (congrArg some (by kernel_rfl))
  f298 := Tryz.func211.trans (congrArg some (by kernel_rfl))
  f299 := Tryz.func212.trans (congrArg some (by kernel_rfl))
  f300 := Tryz.func214.trans (congrArg some (by kernel_rfl))
  f301 := Tryz.func215.trans (congrArg some (by kernel_rfl))
  f328 := Tryz.func269.trans (congrArg some (by kernel_rfl))
  f329 := Tryz.func270.trans (congrArg some (by kernel_rfl))
  f330 := Tryz.func271.trans (congrArg some (by kernel_rfl))
  f331 := Tryz.func272.trans (congrArg some (by kernel_rfl))
  f332 := Tryz.func273.trans (congrArg some (by kernel_rfl))
  f343 := Tryz.func320.trans (congrArg some (by kernel_rfl))
  t0 := Tryz.underlying0
  a0 := Tryz.isAgg0
  z0 := Tryz.sizeOf0
  v0 := Tryz.zeroValue0
  t3 := Tryz.underlying3
  a3 := Tryz.isAgg3
  z3 := Tryz.sizeOf3
  v3 := Tryz.zeroValue3
  t4 := Tryz.underlying4
  a4 := Tryz.isAgg4
  z4 := Tryz.sizeOf4
  v4 := Tryz.zeroValue4
  t5 := Tryz.underlying5
  a5 := Tryz.isAgg5
  z5 := Tryz.sizeOf5
  v5 := Tryz.zeroValue5
  t9 := Tryz.underlying9
  a9 := Tryz.isAgg9
  z9 := Tryz.sizeOf9
  v9 := Tryz.zeroValue9
  t28 := Tryz.underlying72
  a28 := Tryz.isAgg72
  z28 := Tryz.sizeOf72
  v28 := Tryz.zeroValue72
  t46 := Tryz.underlying205
  a46 := Tryz.isAgg205
  z46 := Tryz.sizeOf205
  v46 := Tryz.zeroValue205
  t51 := Tryz.underlying243
  a51 := Tryz.isAgg243
  z51 := Tryz.sizeOf243
  v51 := Tryz.zeroValue243
  t53 := Tryz.underlying83
  a53 := Tryz.isAgg83
  z53 := Tryz.sizeOf83
  v53 := Tryz.zeroValue83
  t131 := Tryz.underlying32
  a131 := Tryz.isAgg32
  z131 := Tryz.sizeOf32
  v131 := Tryz.zeroValue32
  t182 := Tryz.underlying248
  a182 := Tryz.isAgg248
  z182 := Tryz.sizeOf248
  v182 := Tryz.zeroValue248
  t183 := Tryz.underlying249
  a183 := Tryz.isAgg249
  z183 := Tryz.sizeOf249
  v183 := Tryz.zeroValue249
  t218 := Tryz.underlying286
  a218 := Tryz.isAgg286
  z218 := Tryz.sizeOf286
  v218 := Tryz.zeroValue286
  t222 := Tryz.underlying290
  a222 := Tryz.isAgg290
  z222 := Tryz.sizeOf290
  v222 := Tryz.zeroValue290
  t228 := Tryz.underlying316
  a228 := Tryz.isAgg316
  z228 := Tryz.sizeOf316
  v228 := Tryz.zeroValue316
  t229 := Tryz.underlying308
  a229 := Tryz.isAgg308
  z229 := Tryz.sizeOf308
  v229 := Tryz.zeroValue308 }
def Tryz.compactInt_ren : Go.Shelf.Ren := ⟨fun | 20 => 122 | n => n, fun | 22 => 72 | 3 => 3 | 4 => 4 | 0 => 0 | n => n, fun | n => n⟩
theorem Tryz.compactInt : Go.Proofs.Lays2.n20 Tryz.prog Tryz.compactInt_ren := {
  mixed := by kernel_rfl
  f20 := Tryz.func122.trans (congrArg some (by kernel_rfl))
  t0 := Tryz.underlying0
  a0 := Tryz.isAgg0
  z0 := Tryz.sizeOf0
  v0 := Tryz.zeroValue0
  t3 := Tryz.underlying3
  a3 := Tryz.isAgg3
  z3 := Tryz.sizeOf3
  v3 := Tryz.zeroValue3
  t4 := Tryz.underlying4
  a4 := Tryz.isAgg4
  z4 := Tryz.sizeOf4
  v4 := Tryz.zeroValue4
  t22 := Tryz.underlying72
  a22 := Tryz.isAgg72
  z22 := Tryz.sizeOf72
  v22 := Tryz.zeroValue72
  i3 := by kernel_rfl }
def Tryz.cloneMap_ren : Go.Shelf.Ren := ⟨fun | 5 => 97 | 7 => 153 | n => n, fun | 23 => 113 | 25 => 117 | 3 => 3 | 4 => 4 | 20 => 20 | n => n, fun | n => n⟩
theorem Tryz.cloneMap : Go.Proofs.SlLaysW.n5 Tryz.prog Tryz.cloneMap_ren := {
  mixed := by kernel_rfl
  f5 := ⟨Tryz.f97.name, by decide, Tryz.func97.trans (congrArg some (by kernel_rfl))⟩
  f7 := Tryz.func153.trans (congrArg some (by kernel_rfl))
  t4 := Tryz.underlying4
  a4 := Tryz.isAgg4
  z4 := Tryz.sizeOf4
  v4 := Tryz.zeroValue4
  t20 := Tryz.underlying20
  a20 := Tryz.isAgg20
  z20 := Tryz.sizeOf20
  v20 := Tryz.zeroValue20
  t23 := Tryz.underlying113
  a23 := Tryz.isAgg113
  z23 := Tryz.sizeOf113
  v23 := Tryz.zeroValue113 }
end Go.Proofs

/-
  DERIVED: THE SHELF's CONTRACTS AT THIS DUMP, IN PLAIN WORDS (tools/lay-plain.mjs out of 'YtdoaniccefdkaaaGreatDoorSh4.lean', which tools/lay-shelf.mjs wrote): THE SAME DECLARATIONS UNDER THE SAME NAMES: 'import', 'namespace', 'open', 'def', 'theorem' AND NOTHING ELSE: no command of the shelf's: FOR A HAND-IN. Each laying: the table of numbers ('.._ren') and one theorem, a field a fact of the dump's own or the kernel's comparison; each contract: ONE APPLICATION.
-/
namespace Go.Proofs
open Go.Shelf
def Tryz.sortNoneInt_ren : Go.Shelf.Ren := ⟨fun | 5 => 121 | 8 => 167 | 7 => 166 | 19 => 216 | 20 => 217 | 10 => 207 | 11 => 208 | 12 => 209 | 13 => 210 | 14 => 211 | 15 => 212 | 16 => 213 | 17 => 214 | 18 => 215 | 30 => 269 | 31 => 270 | 32 => 271 | 33 => 272 | 34 => 273 | 35 => 202 | 40 => 320 | n => n, fun | 23 => 72 | 25 => 3 | 3 => 3 | 32 => 205 | 22 => 72 | 0 => 0 | 44 => 243 | 46 => 83 | 4 => 4 | 36 => 249 | 35 => 248 | 41 => 32 | 5 => 5 | 9 => 9 | 53 => 286 | 57 => 290 | 63 => 316 | 64 => 308 | n => n, fun | n => n⟩
theorem Tryz.sortNoneInt : Go.Proofs.SlLaysM.n5 Tryz.prog Tryz.sortNoneInt_ren := {
  mixed := by kernel_rfl
  f5 := ⟨Tryz.f121.name, by decide, Tryz.func121.trans (congrArg some (by kernel_rfl))⟩
  f7 := ⟨Tryz.f166.name, by decide, Tryz.func166.trans (congrArg some (by kernel_rfl))⟩
  f8 := Tryz.func167.trans (congrArg some (by kernel_rfl))
  f10 := ⟨Tryz.f207.name, by decide, Tryz.func207.trans (congrArg some (by kernel_rfl))⟩
  f11 := ⟨Tryz.f208.name, by decide, Tryz.func208.trans (congrArg some (by kernel_rfl))⟩
  f12 := ⟨Tryz.f209.name, by decide, Tryz.func209.trans (congrArg some (by kernel_rfl))⟩
  f13 := ⟨Tryz.f210.name, by decide, Tryz.func210.trans (congrArg some (by kernel_rfl))⟩
  f14 := ⟨Tryz.f211.name, by decide, Tryz.func211.trans (congrArg some (by kernel_rfl))⟩
  f15 := ⟨Tryz.f212.name, by decide, Tryz.func212.trans (congrArg some (by kernel_rfl))⟩
  f16 := ⟨Tryz.f213.name, by decide, Tryz.func213.trans (congrArg some (by kernel_rfl))⟩
  f17 := ⟨Tryz.f214.name, by decide, Tryz.func214.trans (congrArg some (by kernel_rfl))⟩
  f18 := ⟨Tryz.f215.name, by decide, Tryz.func215.trans (congrArg some (by kernel_rfl))⟩
  f19 := Tryz.func216.trans (congrArg some (by kernel_rfl))
  f20 := Tryz.func217.trans (congrArg some (by kernel_rfl))
  f30 := ⟨Tryz.f269.name, by decide, Tryz.func269.trans (congrArg some (by kernel_rfl))⟩
  f31 := Tryz.func270.trans (congrArg some (by kernel_rfl))
  f32 := Tryz.func271.trans (congrArg some (by kernel_rfl))
  f33 := ⟨Tryz.f272.name, by decide, Tryz.func272.trans (congrArg some (by kernel_rfl))⟩
  f34 := ⟨Tryz.f273.name, by decide, Tryz.func273.trans (congrArg some (by kernel_rfl))⟩
  f35 := ⟨Tryz.f202.name, by decide, Tryz.func202.trans (congrArg some (by kernel_rfl))⟩
  f40 := ⟨Tryz.f320.name, by decide, Tryz.func320.trans (congrArg some (by kernel_rfl))⟩
  t0 := Tryz.underlying0
  a0 := Tryz.isAgg0
  z0 := Tryz.sizeOf0
  v0 := Tryz.zeroValue0
  t3 := Tryz.underlying3
  a3 := Tryz.isAgg3
  z3 := Tryz.sizeOf3
  v3 := Tryz.zeroValue3
  t4 := Tryz.underlying4
  a4 := Tryz.isAgg4
  z4 := Tryz.sizeOf4
  v4 := Tryz.zeroValue4
  t5 := Tryz.underlying5
  a5 := Tryz.isAgg5
  z5 := Tryz.sizeOf5
  v5 := Tryz.zeroValue5
  t9 := Tryz.underlying9
  a9 := Tryz.isAgg9
  z9 := Tryz.sizeOf9
  v9 := Tryz.zeroValue9
  t22 := Tryz.underlying72
  a22 := Tryz.isAgg72
  z22 := Tryz.sizeOf72
  v22 := Tryz.zeroValue72
  t23 := Tryz.underlying72
  a23 := Tryz.isAgg72
  z23 := Tryz.sizeOf72
  v23 := Tryz.zeroValue72
  t25 := Tryz.underlying3
  a25 := Tryz.isAgg3
  z25 := Tryz.sizeOf3
  v25 := Tryz.zeroValue3
  t32 := Tryz.underlying205
  a32 := Tryz.isAgg205
  z32 := Tryz.sizeOf205
  v32 := Tryz.zeroValue205
  t35 := Tryz.underlying248
  a35 := Tryz.isAgg248
  z35 := Tryz.sizeOf248
  v35 := Tryz.zeroValue248
  t36 := Tryz.underlying249
  a36 := Tryz.isAgg249
  z36 := Tryz.sizeOf249
  v36 := Tryz.zeroValue249
  t41 := Tryz.underlying32
  a41 := Tryz.isAgg32
  z41 := Tryz.sizeOf32
  v41 := Tryz.zeroValue32
  t44 := Tryz.underlying243
  a44 := Tryz.isAgg243
  z44 := Tryz.sizeOf243
  v44 := Tryz.zeroValue243
  t46 := Tryz.underlying83
  a46 := Tryz.isAgg83
  z46 := Tryz.sizeOf83
  v46 := Tryz.zeroValue83
  t53 := Tryz.underlying286
  a53 := Tryz.isAgg286
  z53 := Tryz.sizeOf286
  v53 := Tryz.zeroValue286
  t57 := Tryz.underlying290
  a57 := Tryz.isAgg290
  z57 := Tryz.sizeOf290
  v57 := Tryz.zeroValue290
  t63 := Tryz.underlying316
  a63 := Tryz.isAgg316
  z63 := Tryz.sizeOf316
  v63 := Tryz.zeroValue316
  t64 := Tryz.underlying308
  a64 := Tryz.isAgg308
  z64 := Tryz.sizeOf308
  v64 := Tryz.zeroValue308 }
end Go.Proofs

/- slices.Sort and slices.Compact at a slice of numbers. -/
namespace Go.Proofs.YtdoaniccefdkaaaGreatDoor
open Go.RowKit Go.Maps Go.WideMaps Go.Sort

def sortL (zs : List Int) : List Int := zs.mergeSort fun x y => decide (x ≤ y)
theorem sortL_len (zs : List Int) : (sortL zs).length = zs.length := (List.mergeSort_perm zs _).length_eq
theorem sortL_mem (zs : List Int) (x : Int) : x ∈ sortL zs ↔ x ∈ zs := (List.mergeSort_perm zs _).mem_iff

theorem owns_grow {w : World} {base e size n : Nat} {v : Value} {xs : List Value} (h : w.ownsRow base e size v n xs) (os : Array Obj) : (grow w os).ownsRow base e size v n xs :=
  ownsRow_same h fun g hg => heap_grow_old _ _ (h.lt g hg).2

theorem grown_grow {w w' : World} {row : Option Nat} (h : w.grownBy w' row) (os : Array Obj) : w.grownBy (grow w' os) row :=
  ⟨h.os, h.tape, h.output, by rw [size_grow]; have := h.size; omega, fun i hi hne => (heap_grow_old _ _ (Nat.lt_of_lt_of_le hi h.size)).trans (h.block i hi hne)⟩

theorem sortInt_walk {w : World} {base : Nat} {v : Value} {zs : List Int} (h : w.ownsInts base 3 .i64 v zs) (hsz : zs.length ≤ 1000000000000) :
    Calls Tryz.prog 121 #[v] w fun r w' => r = .returned (.tuple #[]) ∧ w'.ownsInts base 3 .i64 v (sortL zs) ∧ w.grownBy w' v.ownBlock := by
  have hwf : ∀ z ∈ sortL zs, (Lit.int .i64 z).wf = true := fun z hz => h.2 z ((sortL_mem zs z).1 hz)
  rcases h.1.2 with ⟨rfl, h0⟩ | ⟨g, cap, cur, rfl, hb, hh, hn, hm, hs, ht⟩
  · have : zs = [] := List.length_eq_zero_iff.1 h0
    subst this
    have hc := AnyM.slices_Sort_int_none (P := Tryz.prog) Tryz.sortNoneInt none 0 w
    change Calls Tryz.prog 121 _ _ _ at hc
    refine hc.mono ?_
    rintro r w' ⟨rfl, rfl⟩
    have e : sortL [] = [] := by simp [sortL]
    rw [e]
    exact ⟨rfl, World.ownsInts_nil _ _ _ _, ⟨rfl, rfl, rfl, Nat.le_refl _, fun _ _ _ => rfl⟩⟩
  · have hgl : g < w.heap.size := (Array.getElem?_eq_some_iff.1 hh).1
    have hc := Any.slices_Sort_int (P := Tryz.prog) Tryz.sortInt g 0 cap zs w (owns_holds h.1) hgl (by omega)
    change Calls Tryz.prog 121 _ _ _ at hc
    refine hc.mono ?_
    rintro r w' ⟨rfl, q, os, rfl⟩
    rw [putRow_enc]
    have e := owns_put h.1 q ((sortL zs).toArray.map (Value.int .i64)) (n' := zs.length) (by simp [sortL_len]) (by simp [sortL_len]) (Nat.le_refl _)
    refine ⟨rfl, ⟨?_, hwf⟩, grown_grow (put_grown _ _ _ _ _) _⟩
    rw [sortL_len]
    refine owns_grow ?_ _
    have e2 : (((sortL zs).toArray.map (Value.int .i64)).toList.take (zs.length * 1)) = (sortL zs).map (Value.int .i64) := by
      rw [List.take_of_length_le (by simp [sortL_len])]
      simp
    rw [e2] at e
    exact e

theorem compact_len (zs : List Int) : (Lib.compact zs).length ≤ zs.length := by
  unfold Lib.compact Lib.compactUpTo
  rw [List.length_map]
  exact Nat.le_trans (List.length_filter_le _ _) (by simp)
theorem compact_sub (zs : List Int) (x : Int) (h : x ∈ Lib.compact zs) : x ∈ zs := by
  unfold Lib.compact Lib.compactUpTo at h
  obtain ⟨j, hj, rfl⟩ := List.mem_map.1 h
  have := (List.mem_filter.1 hj).1
  rw [List.mem_range] at this
  rw [getElem!_pos zs.toArray j (by simpa using this)]
  simp

theorem compactInt_walk {w : World} {base : Nat} {v : Value} {zs : List Int} (h : w.ownsInts base 3 .i64 v zs) (hwf : ∀ z ∈ Lib.compact zs, (Lit.int .i64 z).wf = true) (hsz : zs.length ≤ 1000000000000) :
    Calls Tryz.prog 122 #[v] w fun r w' => ∃ v', r = .returned v' ∧ w'.ownsInts base 3 .i64 v' (Lib.compact zs) ∧ w.grownBy w' v.ownBlock ∧ v'.ownBlock = v.ownBlock := by
  rcases h.1.2 with ⟨rfl, h0⟩ | ⟨g, cap, cur, rfl, hb, hh, hn, hm, hs, ht⟩
  · have : zs = [] := List.length_eq_zero_iff.1 h0
    subst this
    have hc := Any.slices_Compact_int_empty (P := Tryz.prog) Tryz.compactInt none 0 w
    change Calls Tryz.prog 122 _ _ _ at hc
    refine hc.mono ?_
    rintro r w' ⟨rfl, rfl⟩
    exact ⟨_, rfl, h, ⟨rfl, rfl, rfl, Nat.le_refl _, fun _ _ _ => rfl⟩, rfl⟩
  · have hc := Any.slices_Compact_int (P := Tryz.prog) Tryz.compactInt g 0 cap zs w (owns_holds h.1) (by omega) hn
    change Calls Tryz.prog 122 _ _ _ at hc
    refine hc.mono ?_
    rintro r w' ⟨rfl, q, rfl⟩
    rw [putRow_enc]
    have hle := compact_len zs
    have e := owns_put h.1 q ((Lib.compact zs ++ List.replicate (zs.length - (Lib.compact zs).length) 0).toArray.map (Value.int .i64)) (n' := (Lib.compact zs).length) (by simp) (by simp; omega) hle
    refine ⟨_, rfl, ⟨?_, hwf⟩, put_grown _ _ _ _ _, rfl⟩
    simpa using e

end Go.Proofs.YtdoaniccefdkaaaGreatDoor

/- One edge and its spokes anew: what the stores leave, whatever they are. -/
namespace Go.Proofs.YtdoaniccefdkaaaGreatDoor
open Go.RowKit Go.Maps Go.WideMaps

theorem step_gen {wr W1 W2 W2' W3 W4 : World} {mb ba bs bf n : Nat} {pv : Value} {sv : Int → Option Value} {M : MeshM} {F : Nat → Prop} (h : MeshParts wr mb ba bs bf n pv sv M F) {x : Int} {ap' : Int → Int → Option Int} {l' : List Int}
    (b01 : Below wr.heap.size wr W1) (g12 : W1.grownBy W2 (some ba)) (hap : FMap Tryz.prog W2 117 ba (n + 1) (edgeV ap'))
    (b22 : Below W2.heap.size W2 W2') (v' : Value) (g23 : W2'.grownBy W3 (atSv sv x).ownBlock) (hrow : W3.ownsInts 0 3 .i64 v' l')
    (hloc : v'.ownBlock = (atSv sv x).ownBlock ∨ v'.ownBlock = some W2'.heap.size) (hlen : l'.length ≤ n + 1)
    (hsp : FMap Tryz.prog W4 3 bs (n + 1) (updV (intV sv) (vI x) v')) (g34 : W3.grownBy W4 (some bs)) :
    MeshParts W4 mb ba bs bf (n + 1) pv (upI sv x (some v')) { M with ap := ap', sp := upI M.sp x l' } (fun i => F i ∨ (wr.heap.size ≤ i ∧ i < W4.heap.size)) ∧ Stay F wr W4 := by
  have s1 := b01.size
  have s2 := g12.size
  have s3 := b22.size
  have s4 := g23.size
  have s5 := g34.size
  have hba := h.flt ba h.fba
  have hbs := h.flt bs h.fbs
  have hbf := h.flt bf h.fbf
  have hmb := h.flt mb h.fmb
  -- an old block that is none of the three
  have old : ∀ i, i < wr.heap.size → i ≠ ba → i ≠ bs → (atSv sv x).ownBlock ≠ some i → W4.heap[i]? = wr.heap[i]? := by
    intro i hi h1 h2 h3
    rw [g34.block i (by omega) (by simpa using h2), g23.block i (by omega) (fun e => h3 e.symm), b22.block i (by omega), g12.block i (by omega) (by simpa using h1), b01.block i hi]
  -- blocks of other kinds
  have rowF : ∀ g, (atSv sv x).ownBlock = some g → F g ∧ g ≠ mb ∧ pv.ownBlock ≠ some g ∧ g < wr.heap.size := by
    intro g hg
    obtain ⟨v, hv, hvg, _⟩ := atSv_block hg
    have := h.rows.inF x v g hv hvg
    exact ⟨this.1, fun e => this.2 (.inl e), fun e => this.2 (.inr e), h.flt g this.1⟩
  have rowCells : ∀ a v g, sv a = some v → v.ownBlock = some g → ∃ cur e, wr.heap[g]? = some (.cells cur e (0, 0)) := by
    intro a v g hv hg
    rcases (h.rows.own a v hv).1.2 with ⟨rfl, _⟩ | ⟨g', cap, cur, rfl, _, hh, _⟩
    · simp [Value.ownBlock] at hg
    · simp [Value.ownBlock] at hg; subst hg; exact ⟨cur, _, hh⟩
  have isMap : ∀ {k : TypeId} {b n : Nat} {f : Value → Option Value}, FMap Tryz.prog wr k b n f → ∀ a v, sv a = some v → v.ownBlock ≠ some b := by
    intro k b n f hf a v hv e
    obtain ⟨cur, ty, h1⟩ := rowCells a v b hv e
    obtain ⟨es, cl, h2⟩ := hf.isMap
    rw [h1] at h2; cases h2
  have rowNe : ∀ {k : TypeId} {b n : Nat} {f : Value → Option Value}, FMap Tryz.prog wr k b n f → (atSv sv x).ownBlock ≠ some b := by
    intro k b n f hf e
    obtain ⟨v, hv, hvg, _⟩ := atSv_block e
    exact isMap hf x v hv hvg
  have mbMap : ∀ {k : TypeId} {b n : Nat} {f : Value → Option Value}, FMap Tryz.prog wr k b n f → mb ≠ b := by
    intro k b n f hf e
    subst e
    obtain ⟨es, cl, h2⟩ := hf.isMap
    have := h.c0
    simp [World.cell?, h2] at this
  have pvMap : ∀ {k : TypeId} {b n : Nat} {f : Value → Option Value}, FMap Tryz.prog wr k b n f → pv.ownBlock ≠ some b := by
    intro k b n f hf e
    rcases h.pts.2 with ⟨h1, _⟩ | ⟨g', cap, cur, h1, _, hh, _⟩
    · rw [h1] at e; simp [Value.ownBlock] at e
    · rw [h1] at e; simp [Value.ownBlock] at e; subst e
      obtain ⟨es, cl, h2⟩ := hf.isMap
      rw [hh] at h2; cases h2
  have mbOld : W4.heap[mb]? = wr.heap[mb]? := old mb hmb (mbMap h.apm) (mbMap h.spm) (fun e => (rowF mb e).2.1 rfl)
  have bfOld : W4.heap[bf]? = wr.heap[bf]? := old bf hbf (Ne.symm h.naf) (Ne.symm h.nsf) (rowNe h.fxm)
  have hc : ∀ i, W4.cell? ⟨mb, i, none⟩ = wr.cell? ⟨mb, i, none⟩ := fun i => World.cell?_of_block mbOld
  have hv'F : ∀ g, v'.ownBlock = some g → (F g ∨ (wr.heap.size ≤ g ∧ g < W4.heap.size)) ∧ g ≠ mb ∧ pv.ownBlock ≠ some g := by
    intro g hg
    rcases hloc with e | e
    · have := rowF g (e ▸ hg); exact ⟨.inl this.1, this.2.1, this.2.2.1⟩
    · rw [hg] at e; cases e
      have hlt := hrow.1.lt _ hg
      refine ⟨.inr ⟨by omega, by omega⟩, by omega, fun e => ?_⟩
      have := h.flt _ (h.fpv _ e); omega
  refine ⟨⟨(hc 0).trans h.c0, (hc 1).trans h.c1, (hc 2).trans h.c2, (hc 3).trans h.c3, (hc 4).trans h.c4, fun i => (World.frozen?_of_block mbOld).trans (h.fz i), ?_, ?_, ?_, ?_, ?_, h.nab, h.naf, h.nsf, h.npm, .inl h.fmb, .inl h.fba, .inl h.fbs, .inl h.fbf, fun g hg => .inl (h.fpv g hg), ?_, ?_, by have := h.cb; show -((n + 1 : Nat) : Int) ≤ M.cnt ∧ M.cnt ≤ ((n + 1 : Nat) : Int); omega⟩, ?_⟩
  · exact ownsRow_same h.pts fun g hg => old g (h.flt g (h.fpv g hg)) (fun e => pvMap h.apm (e ▸ hg)) (fun e => pvMap h.spm (e ▸ hg)) (fun e => (rowF g e).2.2.1 hg)
  · have : FMap Tryz.prog W4 117 ba (n + 1) (edgeV ap') := by
      refine hap.same ?_
      rw [g34.block ba (by omega) (by simpa using h.nab), g23.block ba (by omega) (fun e => rowNe h.apm e.symm), b22.block ba (by omega)]
    exact this
  · have := hsp
    rw [intV_up] at this
    exact this
  · exact (h.fxm.mono (Nat.le_succ n)).same bfOld
  · refine ⟨fun a ha => ?_, fun a v hv => ?_, fun a a' v u hne hv hu => ?_, fun a v g hv hg => ?_⟩
    · by_cases e : a = x
      · subst e; rw [upI_same] at ha; cases ha
      · rw [upI_other _ _ e] at ha
        show upI M.sp x _ a = []
        rw [upI_other _ _ e]; exact h.rows.none a ha
    · by_cases e : a = x
      · subst e; rw [upI_same] at hv; cases hv
        show W4.ownsInts 0 _ _ v' (upI M.sp a _ a)
        rw [upI_same]
        refine ⟨ownsRow_same hrow.1 fun g hg => g34.block g (hrow.1.lt g hg).2 ?_, hrow.2⟩
        intro e
        simp only [Option.some.injEq] at e
        subst e
        rcases hloc with e | e
        · exact rowNe h.spm (e ▸ hg)
        · rw [hg] at e; cases e; omega
      · rw [upI_other _ _ e] at hv
        show W4.ownsInts 0 _ _ v (upI M.sp x _ a)
        rw [upI_other _ _ e]
        refine ⟨ownsRow_same (h.rows.own a v hv).1 fun g hg => ?_, (h.rows.own a v hv).2⟩
        refine old g (h.flt g (h.rows.inF a v g hv hg).1) (fun e => isMap h.apm a v hv (e ▸ hg)) (fun e => isMap h.spm a v hv (e ▸ hg)) (fun e1 => ?_)
        obtain ⟨u, hu, hug, _⟩ := atSv_block e1
        rcases h.rows.dis a x v u e hv hu with d | d
        · rw [hg] at d; cases d
        · exact d (hg.trans hug.symm)
    · -- no two keys' slices in one row
      have key : ∀ a v, a ≠ x → sv a = some v → v.ownBlock = none ∨ v.ownBlock ≠ v'.ownBlock := by
        intro a v hne hv
        cases hb : v.ownBlock with
        | none => exact .inl rfl
        | some g =>
          right; intro e
          rcases hloc with e1 | e1
          · rw [e1] at e
            obtain ⟨u, hu, hug, _⟩ := atSv_block e.symm
            rcases h.rows.dis a x v u hne hv hu with d | d
            · rw [hb] at d; cases d
            · exact d (hb.trans hug.symm)
          · rw [e1] at e; cases e
            have := h.flt _ (h.rows.inF a v _ hv hb).1
            omega
      by_cases e : a = x
      · subst e; rw [upI_same] at hv; cases hv
        rw [upI_other _ _ (Ne.symm hne)] at hu
        rcases key a' u (Ne.symm hne) hu with d | d
        · cases hb : v'.ownBlock with
          | none => exact .inl rfl
          | some g => right; rw [d]; simp
        · exact .inr (Ne.symm d)
      · rw [upI_other _ _ e] at hv
        by_cases e' : a' = x
        · subst e'; rw [upI_same] at hu; cases hu
          exact key a v e hv
        · rw [upI_other _ _ e'] at hu
          exact h.rows.dis a a' v u hne hv hu
    · by_cases e : a = x
      · subst e; rw [upI_same] at hv; cases hv
        have := hv'F g hg
        exact ⟨this.1, fun e => e.elim this.2.1 this.2.2⟩
      · rw [upI_other _ _ e] at hv
        exact ⟨.inl (h.rows.inF a v g hv hg).1, (h.rows.inF a v g hv hg).2⟩
  · intro g hg
    rcases hg with hg | hg
    · have := h.flt g hg; omega
    · exact hg.2
  · intro a
    show (upI M.sp x _ a).length ≤ _
    by_cases e : a = x
    · subst e; rw [upI_same]
      exact hlen
    · rw [upI_other _ _ e]
      have := h.spl a; omega
  · refine ⟨?_, ?_, ?_, by omega, fun i hi hF => old i hi (fun e => hF (e ▸ h.fba)) (fun e => hF (e ▸ h.fbs)) (fun e => hF (rowF i e).1)⟩
    · rw [g34.os, g23.os, b22.os, g12.os, b01.os]
    · rw [g34.tape, g23.tape, b22.tape, g12.tape, b01.tape]
    · rw [g34.output, g23.output, b22.output, g12.output, b01.output]


end Go.Proofs.YtdoaniccefdkaaaGreatDoor

/-
  DERIVED: THE SHELF's CONTRACTS AT THIS DUMP, IN PLAIN WORDS (tools/lay-plain.mjs out of 'YtdoaniccefdkaaaGreatDoorSh1.lean', which tools/lay-shelf.mjs wrote): THE SAME DECLARATIONS UNDER THE SAME NAMES: 'import', 'namespace', 'open', 'def', 'theorem' AND NOTHING ELSE: no command of the shelf's: FOR A HAND-IN. Each laying: the table of numbers ('.._ren') and one theorem, a field a fact of the dump's own or the kernel's comparison; each contract: ONE APPLICATION.
-/
namespace Go.Proofs
open Go.Shelf
def Tryz.delInt_ren : Go.Shelf.Ren := ⟨fun | 10 => 92 | 6 => 150 | n => n, fun | 22 => 72 | 23 => 3 | 25 => 126 | 3 => 3 | 4 => 4 | 0 => 0 | n => n, fun | n => n⟩
theorem Tryz.delInt : Go.Proofs.SlLaysH.n10 Tryz.prog Tryz.delInt_ren := {
  mixed := by kernel_rfl
  f6 := ⟨Tryz.f150.name, by decide, Tryz.func150.trans (congrArg some (by kernel_rfl))⟩
  f10 := ⟨Tryz.f92.name, by decide, Tryz.func92.trans (congrArg some (by kernel_rfl))⟩
  t0 := Tryz.underlying0
  a0 := Tryz.isAgg0
  z0 := Tryz.sizeOf0
  v0 := Tryz.zeroValue0
  t3 := Tryz.underlying3
  a3 := Tryz.isAgg3
  z3 := Tryz.sizeOf3
  v3 := Tryz.zeroValue3
  t4 := Tryz.underlying4
  a4 := Tryz.isAgg4
  z4 := Tryz.sizeOf4
  v4 := Tryz.zeroValue4
  t22 := Tryz.underlying72
  a22 := Tryz.isAgg72
  z22 := Tryz.sizeOf72
  v22 := Tryz.zeroValue72
  a23 := Tryz.isAgg3
  z23 := Tryz.sizeOf3
  t25 := Tryz.underlying126
  a25 := Tryz.isAgg126
  z25 := Tryz.sizeOf126
  v25 := Tryz.zeroValue126 }
def Tryz.cmpInt_ren : Go.Shelf.Ren := ⟨fun | 5 => 159 | 7 => 202 | n => n, fun | 22 => 3 | 3 => 3 | 4 => 4 | n => n, fun | n => n⟩
theorem Tryz.cmpInt : Go.Proofs.SlLaysC2.n5 Tryz.prog Tryz.cmpInt_ren := {
  mixed := by kernel_rfl
  f5 := ⟨Tryz.f159.name, by decide, Tryz.func159.trans (congrArg some (by kernel_rfl))⟩
  f7 := ⟨Tryz.f202.name, by decide, Tryz.func202.trans (congrArg some (by kernel_rfl))⟩
  t3 := Tryz.underlying3
  a3 := Tryz.isAgg3
  z3 := Tryz.sizeOf3
  v3 := Tryz.zeroValue3
  t4 := Tryz.underlying4
  a4 := Tryz.isAgg4
  z4 := Tryz.sizeOf4
  v4 := Tryz.zeroValue4
  t22 := Tryz.underlying3
  a22 := Tryz.isAgg3
  z22 := Tryz.sizeOf3
  v22 := Tryz.zeroValue3 }
end Go.Proofs

/- slices.DeleteFunc at a slice of numbers, as Kill calls it. -/
namespace Go.Proofs.YtdoaniccefdkaaaGreatDoor
open Go.RowKit Go.Maps Go.WideMaps Go.Sort

theorem kill1_walk (eb : Nat) (b x : Int) (w : World) (hc : w.cell? ⟨eb, 1, none⟩ = some (.int .i64 b)) :
    Calls Tryz.prog 93 #[.int .i64 x, .pointer (some ⟨eb, 0, none⟩)] w fun e w' => e = .returned (.bool (decide (x = b))) ∧ w' = w := by
  by_cases h : x = b
  all_goals
    go_enter Tryz.func93, Tryz.ntmps93
    go_wp2
    go_ret
    refine ⟨?_, rfl⟩
    simp [h]

theorem enters_kill1 : ∀ args w, (callFunc 93 args).run Tryz.prog w = .ok (.enter 93 args) w := enters_of Tryz.func93 (by kernel_rfl) rfl

set_option maxRecDepth 100000 in
set_option maxHeartbeats 1000000 in
theorem delete_nil (n c : Nat) (hn : n = 0) (g : Nat) (lb : Array Value) (w : World) :
    Calls Tryz.prog 92 #[.slice none n c, .func (.func g) #[] lb] w fun r w' => r = .returned (.slice none n c) ∧ w' = w := by
  subst hn
  have hI := AnyE.slices_IndexFunc_empty (P := Tryz.prog) { Tryz.delInt with } none c (.func (.func g) #[] lb) w
  change Calls Tryz.prog 150 _ _ _ at hI
  go_enter Tryz.func92, Tryz.ntmps92
  go_wp2_with (go_at_call 150; refine hI.mono ?_; rintro r w1 ⟨rfl, rfl⟩)
  go_ret
  exact ⟨rfl, rfl⟩

theorem deleteFunc_walk {w : World} {v : Value} {zs : List Int} (h : w.ownsInts 0 3 .i64 v zs) (eb : Nat) (b : Int) (hc : w.cell? ⟨eb, 1, none⟩ = some (.int .i64 b)) (hne : v.ownBlock ≠ some eb) (hsz : zs.length ≤ 1000000000000) :
    Calls Tryz.prog 92 #[v, .func (.func 93) #[] #[.pointer (some ⟨eb, 0, none⟩)]] w fun r w' =>
      ∃ v', r = .returned v' ∧ w'.ownsInts 0 3 .i64 v' (zs.filter fun x => !decide (x = b)) ∧ w.grownBy w' v.ownBlock ∧ v'.ownBlock = v.ownBlock := by
  have hwf : ∀ z ∈ zs.filter (fun x => !decide (x = b)), (Lit.int .i64 z).wf = true := fun z hz => h.2 z (List.mem_filter.1 hz).1
  rcases h.1.2 with ⟨rfl, h0⟩ | ⟨g, cap, cur, rfl, hb, hh, hn, hm, hs, ht⟩
  · have : zs = [] := List.length_eq_zero_iff.1 h0
    subst this
    refine (delete_nil 0 0 rfl _ _ w).mono ?_
    rintro r w' ⟨rfl, rfl⟩
    exact ⟨_, rfl, World.ownsInts_nil _ _ _ _, ⟨rfl, rfl, rfl, Nat.le_refl _, fun _ _ _ => rfl⟩, rfl⟩
  · have hgeb : eb ≠ g := fun e => hne (by rw [e]; rfl)
    have hebl := World.block_lt_of_cell? _ _ hc
    have hH : Holds (Value.int .i64) w g 0 zs.toArray := owns_holds h.1
    have hgl : g < w.heap.size := (Array.getElem?_eq_some_iff.1 hh).1
    have hcon := AnyE.slices_DeleteFunc (P := Tryz.prog) Tryz.delInt (Value.int .i64) (fun _ => rfl) (fun x => decide (x = b)) 93 #[.pointer (some ⟨eb, 0, none⟩)] enters_kill1 0 (fun w => zeroInt w) g 0 cap zs.toArray w
      (fun W x hbw => (kill1_walk eb b x W ((hbw.cell (p := ⟨eb, 1, none⟩) hebl).trans hc)).mono fun _ _ ⟨he, hw⟩ => ⟨he, 0, hw⟩)
      (fun n os dk x _ => (kill1_walk eb b x _ (by
        unfold sortWorld
        rw [cell?_grow _ _ _ (by rw [size_putRow]; exact hebl), cell?_putRow_other _ _ _ _ _ _ (.inl hgeb)]
        exact hc)).mono fun _ _ ⟨he, hw⟩ => ⟨he, 0, hw⟩)
      hH (by simp; omega) (by simpa using hn)
    change Calls Tryz.prog 92 _ _ _ at hcon
    rw [List.size_toArray] at hcon
    refine hcon.mono ?_
    rintro r w' ⟨rfl, q, rfl⟩
    have hlen := List.length_filter_le (fun x => !decide (x = b)) zs
    rw [putRow_enc]
    refine ⟨_, rfl, ⟨?_, hwf⟩, put_grown _ _ _ _ _, rfl⟩
    have := owns_put h.1 q (((zs.filter fun x => !decide (x = b)) ++ List.replicate (zs.length - (zs.filter fun x => !decide (x = b)).length) 0).toArray.map (Value.int .i64)) (n' := (zs.filter fun x => !decide (x = b)).length) (by simp) (by simp; omega) hlen
    simpa using this

end Go.Proofs.YtdoaniccefdkaaaGreatDoor

/- (*Mesh).Kill. -/
namespace Go.Proofs.YtdoaniccefdkaaaGreatDoor
open Go.RowKit Go.Maps Go.WideMaps

theorem round_del {w wr W W2 W2' W3 W4 : World} {mb ba bs bf n : Nat} {pv : Value} {sv : Int → Option Value} {M : MeshM} {F : Nat → Prop}
    (h : MeshParts wr mb ba bs bf n pv sv M (fun i => F i ∨ (w.heap.size ≤ i ∧ i < wr.heap.size))) (hst : Stay F w wr) (hF : ∀ i, F i → i < w.heap.size)
    {x y : Int} (b01 : Below wr.heap.size wr W) (g12 : W.grownBy W2 (some ba)) (hap : FMap Tryz.prog W2 117 ba n (delV (edgeV M.ap) (kE x y)))
    (b22 : Below W2.heap.size W2 W2') (v' : Value) (g23 : W2'.grownBy W3 (atSv sv x).ownBlock) (hrow : W3.ownsInts 0 3 .i64 v' ((M.sp x).filter fun x => !decide (x = y)))
    (hloc : v'.ownBlock = (atSv sv x).ownBlock) (hsp : FMap Tryz.prog W4 3 bs (n + 1) (updV (intV sv) (vI x) v')) (g34 : W3.grownBy W4 (some bs)) :
    MeshParts W4 mb ba bs bf (n + 1) pv (upI sv x (some v')) (dropE M x y) (fun i => F i ∨ (w.heap.size ≤ i ∧ i < W4.heap.size)) ∧ Stay F w W4 := by
  rw [edgeV_del] at hap
  obtain ⟨p, st⟩ := step_gen h b01 g12 (hap.mono (Nat.le_succ n)) b22 v' g23 hrow (.inl hloc) (Nat.le_trans (List.length_filter_le _ _) (Nat.le_trans (h.spl x) (Nat.le_succ n))) hsp g34
  have hs := st.size
  have hs0 := hst.size
  refine ⟨p.wider (fun g hg => ?_) (fun g hg => ?_), hst.trans (st.mono fun i hi => ?_)⟩
  · rcases hg with (hg | hg) | hg
    · exact .inl hg
    · exact .inr ⟨hg.1, by omega⟩
    · exact .inr ⟨by omega, hg.2⟩
  · rcases hg with hg | hg
    · have := hF g hg; omega
    · exact hg.2
  · rcases hi with hi | hi
    · exact .inl hi
    · exact .inr hi.1

/-- the three corners, by number -/
def triI (a b c : Int) (k : Nat) : Int := if k = 0 then a else if k = 1 then b else if k = 2 then c else if k = 3 then a else b
/-- the mesh behind k edges -/
def Dk (M : MeshM) (a b c : Int) : Nat → MeshM
  | 0 => M
  | k + 1 => dropE (Dk M a b c k) (triI a b c k) (triI a b c (k + 1))
theorem Dk_cnt (M : MeshM) (a b c : Int) (k : Nat) : (Dk M a b c k).cnt = M.cnt := by induction k with | zero => rfl | succ k ih => exact ih

set_option maxRecDepth 100000 in
set_option maxHeartbeats 1000000 in
theorem kill_none {w : World} {mb n : Nat} {M : MeshM} {F : Nat → Prop} (h : MeshAt w mb n M F) {a b c : Int} (ha : i64ok a) (hb : i64ok b) (hk : M.ap a b ≠ some c) :
    Calls Tryz.prog 29 #[.pointer (some ⟨mb, 0, none⟩), .int .i64 a, .int .i64 b, .int .i64 c] w fun r w' => r = .returned (.int .i64 5) ∧ w' = w := by
  obtain ⟨ba, bs, bf, pv, sv, h⟩ := h
  have c1 := h.c1
  have HF := Lib.hid h.apm
  have HK := Lib.hid (keyE ha hb)
  have HV := Lib.hid (edgeV_getD M.ap a b)
  have HI := Lib.hid (edgeV_isSome M.ap a b)
  clear h ha hb
  generalize M.ap a b = o at *
  cases o with
  | none =>
    go_enter Tryz.func29, Tryz.ntmps29
    go_wp2_with (at_lookup; refine wp_look_ok _ rfl _ _ 113 rfl 117 3 edgeLaw Tryz.underlying113 (.int .i64 0) (zeroInt _) ba n _ rfl HF.out _ rfl _ HK.out _ HV.out _ HI.out ?_)
    go_ret
    exact ⟨rfl, rfl⟩
  | some v =>
    have hvc : v ≠ c := fun e => hk (by rw [e])
    go_enter Tryz.func29, Tryz.ntmps29
    go_wp2_with (at_lookup; refine wp_look_ok _ rfl _ _ 113 rfl 117 3 edgeLaw Tryz.underlying113 (.int .i64 0) (zeroInt _) ba n _ rfl HF.out _ rfl _ HK.out _ HV.out _ HI.out ?_)
    go_ret
    exact ⟨rfl, rfl⟩

end Go.Proofs.YtdoaniccefdkaaaGreatDoor

/- (*Mesh).Kill: a triangle goes. -/
namespace Go.Proofs.YtdoaniccefdkaaaGreatDoor
open Go.RowKit Go.Maps Go.WideMaps

set_option maxRecDepth 100000 in
set_option maxHeartbeats 4000000 in
theorem kill_some {w : World} {mb n : Nat} {M : MeshM} {F : Nat → Prop} (h : MeshAt w mb n M F) (hn : n ≤ 1000000000) {a b c : Int} (ha : i64ok a) (hb : i64ok b) (hc : i64ok c) (hk : M.ap a b = some c) :
    Calls Tryz.prog 29 #[.pointer (some ⟨mb, 0, none⟩), .int .i64 a, .int .i64 b, .int .i64 c] w fun r w' =>
      r = .returned (.int .i64 0) ∧ MeshAt w' mb (n + 3) (killM M a b c) (fun i => F i ∨ (w.heap.size ≤ i ∧ i < w'.heap.size)) ∧ Stay F w w' := by
  obtain ⟨ba, bs, bf, pv, sv, h⟩ := h
  have c1 := h.c1
  have HL := Lib.hid (lookE h.apm ha hb)
  rw [hk] at HL
  have HAR := Lib.hid (around_walk a b c w)
  have HP := Lib.hid h
  have HE0 := Lib.hid ha
  have HE1 := Lib.hid hb
  have HE2 := Lib.hid hc
  clear h ha hb hc hk
  have hl := HL.out
  simp only [Option.getD_some, Option.isSome_some] at hl
  have hi0 := idx3_0 (.int .i64 a) (.int .i64 b) (.int .i64 b) (.int .i64 c) (.int .i64 c) (.int .i64 a)
  have hi1 := idx3_1 (.int .i64 a) (.int .i64 b) (.int .i64 b) (.int .i64 c) (.int .i64 c) (.int .i64 a)
  have hi2 := idx3_2 (.int .i64 a) (.int .i64 b) (.int .i64 b) (.int .i64 c) (.int .i64 c) (.int .i64 a)
  go_enter Tryz.func29, Tryz.ntmps29
  go_wp2_with (go_at_call 91; refine HAR.out.mono ?_; rintro r w1 ⟨rfl, hb1⟩)
  have HB1 := Lib.hid hb1
  clear HAR hb1 c1 hl HL
  go_loopw [37] (fun i wq => ∃ (k : Nat) (sv' : Int → Option Value), k ≤ 3 ∧ i = .int .i64 k ∧ Hid (MeshParts wq mb ba bs bf (n + k) pv sv' (Dk M a b c k) (fun i => F i ∨ (w.heap.size ≤ i ∧ i < wq.heap.size))) ∧ Hid (Stay F w wq)) (fun i _ => 3 - (intOf i).toNat)
  case atStart =>
    refine ⟨0, sv, by omega, rfl, (HP.out.below HB1.out).wider (fun g hg => .inl hg) (fun g hg => ?_), Stay.of_below HB1.out⟩
    rcases hg with hg | hg
    · exact Nat.lt_of_lt_of_le (HP.out.flt g hg) HB1.out.size
    · exact hg.2
  case round =>
    obtain ⟨k, sv', hk, rfl, HQ, HS2⟩ := hrel
    by_cases hlt : k < 3
    · have hk3 : k = 0 ∨ k = 1 ∨ k = 2 := by omega
      obtain ⟨W, hW⟩ : ∃ W, W = wr.alloc (.cells #[.int .i64 (triI a b c k), .int .i64 (triI a b c (k + 1))] 117) := ⟨_, rfl⟩
      have HBW : Hid (Below wr.heap.size wr W) := by rw [hW]; exact (Below.refl _ _).alloc (Nat.le_refl _) _
      have e0 : W.cell? ⟨wr.heap.size, 0, none⟩ = some (.int .i64 (triI a b c k)) := by rw [hW, World.cell?_alloc_at _ _ _ _ rfl]; rfl
      have e1 : W.cell? ⟨wr.heap.size, 1, none⟩ = some (.int .i64 (triI a b c (k + 1))) := by rw [hW, World.cell?_alloc_at _ _ _ _ rfl]; rfl
      have c1 := (HQ.out.below HBW.out).c1
      have c2 := (HQ.out.below HBW.out).c2
      have HAP := Lib.hid (HQ.out.below HBW.out.drew).apm
      have HW := Lib.hid hW
      have HKX : Hid (i64ok (triI a b c k : Int)) := by rcases hk3 with rfl | rfl | rfl <;> first | exact HE0.out | exact HE1.out | exact HE2.out
      have HKY : Hid (i64ok (triI a b c (k + 1) : Int)) := by rcases hk3 with rfl | rfl | rfl <;> first | exact HE0.out | exact HE1.out | exact HE2.out
      have HK := Lib.hid (keyE HKX.out HKY.out)
      have HSP := Lib.hid (HQ.out.below HBW.out).spm
      have HROW := Lib.hid ((HQ.out.below HBW.out).rows.at (triI a b c k))
      have HRB := Lib.hid ((HQ.out.below HBW.out).row_ne (HQ.out.below HBW.out.drew).apm (triI a b c k))
      have HRF := Lib.hid (HQ.out.row_facts (triI a b c k))
      have HSL := Lib.hid (HQ.out.spl (triI a b c k))
      have HNE : Hid (mb ≠ ba ∧ bs ≠ ba ∧ wr.heap.size ≠ ba) := ⟨HQ.out.mb_ne HQ.out.apm, Ne.symm HQ.out.nab, fun e => by have := HQ.out.apm.lt; omega⟩
      clear hW
      rcases hk3 with rfl | rfl | rfl
      · simp [triI] at c1 e0 e1 HK HAP HSP HROW HRB HRF HSL HKX
        go_wp2
        have hW' := HW.out
        simp [triI] at hW'
        rw [← hW']
        clear hW'
        go_still_tail 5, (by kernel_rfl)
        clear c1
        go_wp2_with (at_delete; refine wp_delete _ rfl _ _ 113 117 rfl 3 edgeLaw Tryz.underlying113 ba _ _ rfl HAP.out _ rfl _ HK.out ?_; intro W2 hap2 hg2)
        go_frame
        have HG2 : Hid (W.grownBy W2 (some ba)) := grown_drew (w := W) hg2
        have HAP2 := Lib.hid hap2
        clear hap2 hg2
        have n2 : Reads3 W2.drew mb bs wr.heap.size (.int .i64 a) (.int .i64 b) := Reads3.grown (w := W) (w' := W2) ⟨c2, e0, e1⟩ HG2.out (by simpa using HNE.out.1) (by simpa using HNE.out.2.2)
        have HSP2 := Lib.hid (FMap.kept HSP.out HG2.out (by simpa using HNE.out.2.1))
        have hS2 := lookS (w := W2.drew) HSP2.out HKX.out
        have HOI := Lib.hid (World.ownsInts.kept HROW.out HG2.out (.inr HRB.out))
        have HD := Lib.hid (deleteFunc_walk (w := W2.drew) HOI.out wr.heap.size b n2.2.2 HRF.out.2.1 (by have := HSL.out; omega))
        clear c2 e0 e1
        go_region_held3 (fun w' => w'.cell? ⟨mb, 2, none⟩ = some (.map (some bs)) ∧ w'.cell? ⟨wr.heap.size, 0, none⟩ = some (.int .i64 a) ∧ w'.cell? ⟨wr.heap.size, 1, none⟩ = some (.int .i64 b)) (first | assumption | exact n2 | exact n3 | exact n4)
          (first
            | (go_at_call 92; refine HD.out.mono ?_
               rintro r W3 ⟨v3, rfl, hown3, hg3, hloc3⟩
               have n3 := Reads3.grown n2 hg3 (fun e => HRF.out.1 e.symm) (fun e => HRF.out.2.1 e.symm)
               obtain ⟨W4, hrun4, hsp4, hg4⟩ := FMap.store (key := .int .i64 a) (FMap.kept HSP2.out.drew hg3 (fun e => HRF.out.2.2.1 e.symm)) intLaw Tryz.underlying114 (by unfold maxLen; omega) (keyI HKX.out) v3
               have n4 := Reads3.grown n3 hg4 (by simpa using HRF.out.2.2.2.1) (by simpa using HRF.out.2.2.2.2)))
        all_goals
          go_wp2
          obtain ⟨p1, p2⟩ := round_del (n := n + 0) (M := Dk M a b c 0) HQ.out HS2.out HP.out.flt HBW.out HG2.out HAP2.out ((Below.refl _ W2).drew) v3 hg3 hown3 hloc3 hsp4 hg4
          refine ⟨?_, ?_⟩
          · exact ⟨1, _, by omega, rfl, p1, p2⟩
          · simp [intOf]
      · simp [triI] at c1 e0 e1 HK HAP HSP HROW HRB HRF HSL HKX
        go_wp2
        have hW' := HW.out
        simp [triI] at hW'
        rw [← hW']
        clear hW'
        go_still_tail 5, (by kernel_rfl)
        clear c1
        go_wp2_with (at_delete; refine wp_delete _ rfl _ _ 113 117 rfl 3 edgeLaw Tryz.underlying113 ba _ _ rfl HAP.out _ rfl _ HK.out ?_; intro W2 hap2 hg2)
        go_frame
        have HG2 : Hid (W.grownBy W2 (some ba)) := grown_drew (w := W) hg2
        have HAP2 := Lib.hid hap2
        clear hap2 hg2
        have n2 : Reads3 W2.drew mb bs wr.heap.size (.int .i64 b) (.int .i64 c) := Reads3.grown (w := W) (w' := W2) ⟨c2, e0, e1⟩ HG2.out (by simpa using HNE.out.1) (by simpa using HNE.out.2.2)
        have HSP2 := Lib.hid (FMap.kept HSP.out HG2.out (by simpa using HNE.out.2.1))
        have hS2 := lookS (w := W2.drew) HSP2.out HKX.out
        have HOI := Lib.hid (World.ownsInts.kept HROW.out HG2.out (.inr HRB.out))
        have HD := Lib.hid (deleteFunc_walk (w := W2.drew) HOI.out wr.heap.size c n2.2.2 HRF.out.2.1 (by have := HSL.out; omega))
        clear c2 e0 e1
        go_region_held3 (fun w' => w'.cell? ⟨mb, 2, none⟩ = some (.map (some bs)) ∧ w'.cell? ⟨wr.heap.size, 0, none⟩ = some (.int .i64 b) ∧ w'.cell? ⟨wr.heap.size, 1, none⟩ = some (.int .i64 c)) (first | assumption | exact n2 | exact n3 | exact n4)
          (first
            | (go_at_call 92; refine HD.out.mono ?_
               rintro r W3 ⟨v3, rfl, hown3, hg3, hloc3⟩
               have n3 := Reads3.grown n2 hg3 (fun e => HRF.out.1 e.symm) (fun e => HRF.out.2.1 e.symm)
               obtain ⟨W4, hrun4, hsp4, hg4⟩ := FMap.store (key := .int .i64 b) (FMap.kept HSP2.out.drew hg3 (fun e => HRF.out.2.2.1 e.symm)) intLaw Tryz.underlying114 (by unfold maxLen; omega) (keyI HKX.out) v3
               have n4 := Reads3.grown n3 hg4 (by simpa using HRF.out.2.2.2.1) (by simpa using HRF.out.2.2.2.2)))
        all_goals
          go_wp2
          obtain ⟨p1, p2⟩ := round_del (n := n + 1) (M := Dk M a b c 1) HQ.out HS2.out HP.out.flt HBW.out HG2.out HAP2.out ((Below.refl _ W2).drew) v3 hg3 hown3 hloc3 hsp4 hg4
          refine ⟨?_, ?_⟩
          · exact ⟨2, _, by omega, rfl, p1, p2⟩
          · simp [intOf]
      · simp [triI] at c1 e0 e1 HK HAP HSP HROW HRB HRF HSL HKX
        go_wp2
        have hW' := HW.out
        simp [triI] at hW'
        rw [← hW']
        clear hW'
        go_still_tail 5, (by kernel_rfl)
        clear c1
        go_wp2_with (at_delete; refine wp_delete _ rfl _ _ 113 117 rfl 3 edgeLaw Tryz.underlying113 ba _ _ rfl HAP.out _ rfl _ HK.out ?_; intro W2 hap2 hg2)
        go_frame
        have HG2 : Hid (W.grownBy W2 (some ba)) := grown_drew (w := W) hg2
        have HAP2 := Lib.hid hap2
        clear hap2 hg2
        have n2 : Reads3 W2.drew mb bs wr.heap.size (.int .i64 c) (.int .i64 a) := Reads3.grown (w := W) (w' := W2) ⟨c2, e0, e1⟩ HG2.out (by simpa using HNE.out.1) (by simpa using HNE.out.2.2)
        have HSP2 := Lib.hid (FMap.kept HSP.out HG2.out (by simpa using HNE.out.2.1))
        have hS2 := lookS (w := W2.drew) HSP2.out HKX.out
        have HOI := Lib.hid (World.ownsInts.kept HROW.out HG2.out (.inr HRB.out))
        have HD := Lib.hid (deleteFunc_walk (w := W2.drew) HOI.out wr.heap.size a n2.2.2 HRF.out.2.1 (by have := HSL.out; omega))
        clear c2 e0 e1
        go_region_held3 (fun w' => w'.cell? ⟨mb, 2, none⟩ = some (.map (some bs)) ∧ w'.cell? ⟨wr.heap.size, 0, none⟩ = some (.int .i64 c) ∧ w'.cell? ⟨wr.heap.size, 1, none⟩ = some (.int .i64 a)) (first | assumption | exact n2 | exact n3 | exact n4)
          (first
            | (go_at_call 92; refine HD.out.mono ?_
               rintro r W3 ⟨v3, rfl, hown3, hg3, hloc3⟩
               have n3 := Reads3.grown n2 hg3 (fun e => HRF.out.1 e.symm) (fun e => HRF.out.2.1 e.symm)
               obtain ⟨W4, hrun4, hsp4, hg4⟩ := FMap.store (key := .int .i64 c) (FMap.kept HSP2.out.drew hg3 (fun e => HRF.out.2.2.1 e.symm)) intLaw Tryz.underlying114 (by unfold maxLen; omega) (keyI HKX.out) v3
               have n4 := Reads3.grown n3 hg4 (by simpa using HRF.out.2.2.2.1) (by simpa using HRF.out.2.2.2.2)))
        all_goals
          go_wp2
          obtain ⟨p1, p2⟩ := round_del (n := n + 2) (M := Dk M a b c 2) HQ.out HS2.out HP.out.flt HBW.out HG2.out HAP2.out ((Below.refl _ W2).drew) v3 hg3 hown3 hloc3 hsp4 hg4
          refine ⟨?_, ?_⟩
          · exact ⟨3, _, by omega, rfl, p1, p2⟩
          · simp [intOf]
    · have e : k = 3 := by omega
      subst e
      have c3 := HQ.out.c3
      have fz := HQ.out.fz 3
      have HCB := Lib.hid HQ.out.cb
      have HCM := Lib.hid (Dk_cnt M a b c 3)
      have HCP := Lib.hid HP.out.cb
      have hwr : IntKind.i64.wrap ((Dk M a b c 3).cnt - 1) = (Dk M a b c 3).cnt - 1 := by
        have := HCB.out
        simp [IntKind.wrap, IntKind.bits, IntKind.signed]; omega
      clear hlt hk
      go_wp2
      go_ret
      obtain ⟨q1, q2⟩ := cnt_parts HQ.out ((Dk M a b c 3).cnt - 1) (by have := HCM.out; have := HCP.out; omega)
      refine ⟨rfl, ⟨ba, bs, bf, pv, sv', ?_⟩, HS2.out.trans (q2.mono fun i hi => hi.elim .inl (fun e => .inr e.1))⟩
      rw [HCM.out] at q1
      refine q1.wider (fun g hg => ?_) (fun g hg => ?_)
      · rcases hg with hg | hg
        · exact .inl hg
        · exact .inr ⟨hg.1, by rw [World.size_setCell]; exact hg.2⟩
      · rcases hg with hg | hg
        · rw [World.size_setCell]; exact Nat.lt_of_lt_of_le (HP.out.flt g hg) HS2.out.size
        · exact hg.2

theorem kill_walk {w : World} {mb n : Nat} {M : MeshM} {F : Nat → Prop} (h : MeshAt w mb n M F) (hn : n ≤ 1000000000) {a b c : Int} (ha : i64ok a) (hb : i64ok b) (hc : i64ok c) :
    Calls Tryz.prog 29 #[.pointer (some ⟨mb, 0, none⟩), .int .i64 a, .int .i64 b, .int .i64 c] w fun r w' =>
      r = .returned (.int .i64 (killCode M a b c)) ∧ MeshAt w' mb (n + 3) (killR M a b c) (fun i => F i ∨ (w.heap.size ≤ i ∧ i < w'.heap.size)) ∧ Stay F w w' := by
  unfold killCode killR
  by_cases hk : M.ap a b = some c
  · rw [if_pos hk, if_pos hk]
    exact kill_some h hn ha hb hc hk
  · rw [if_neg hk, if_neg hk]
    refine (kill_none h ha hb hk).mono ?_
    rintro r w' ⟨rfl, rfl⟩
    exact ⟨rfl, h.stays (Below.refl _ _) (by omega), Stay.refl _ _⟩

end Go.Proofs.YtdoaniccefdkaaaGreatDoor

/- (*Mesh).Spokes. -/
namespace Go.Proofs.YtdoaniccefdkaaaGreatDoor
open Go.RowKit Go.Maps Go.WideMaps Go.Sort

/-- the points that Spokes gathers, and what it answers -/
def rawOf (ap : Int → Int → Option Int) (a : Int) (l : List Int) : List Int := l.flatMap fun b => [b, (ap a b).getD 0]
def spokesL (M : MeshM) (a : Int) : List Int := Lib.compact (sortL (rawOf M.ap a (M.sp a)))
theorem rawOf_len (ap : Int → Int → Option Int) (a : Int) (l : List Int) : (rawOf ap a l).length = 2 * l.length := by
  induction l with
  | nil => rfl
  | cons x r ih => unfold rawOf at *; rw [List.flatMap_cons, List.length_append, ih]; simp; omega
theorem rawOf_snoc (ap : Int → Int → Option Int) (a : Int) (l : List Int) (b : Int) : rawOf ap a (l ++ [b]) = rawOf ap a l ++ [b, (ap a b).getD 0] := by
  unfold rawOf; rw [List.flatMap_append]; simp
theorem rawOf_wf {ap : Int → Int → Option Int} {a : Int} {l : List Int} (hl : ∀ z ∈ l, (Lit.int .i64 z).wf = true) (ha : ∀ b c, ap a b = some c → i64ok c) : ∀ z ∈ rawOf ap a l, (Lit.int .i64 z).wf = true := by
  intro z hz
  unfold rawOf at hz
  obtain ⟨b, hb, hz⟩ := List.mem_flatMap.1 hz
  simp only [List.mem_cons, List.not_mem_nil, or_false] at hz
  rcases hz with rfl | rfl
  · exact hl _ hb
  · cases e : ap a b with
    | none => exact wf_of (by unfold i64ok; simp)
    | some c => exact wf_of (ha b c e)

/-- the numbers, as the walk reads them -/
theorem ints_cells {w : World} {base : Nat} {v : Value} {zs : List Int} (h : w.ownsInts base 3 .i64 v zs) : ∃ ad cap, v = .slice ad zs.length cap ∧ (0 < zs.length → ∃ g, ad = some ⟨g, 0, none⟩ ∧ v.ownBlock = some g ∧ ∀ i, i < zs.length → w.cell? ⟨g, i, none⟩ = some (.int .i64 (zs.getD i 0))) := by
  rcases h.1.2 with ⟨h1, h2⟩ | ⟨g, cap, cur, rfl, hb, hh, hn, hm, hs, ht⟩
  · exact ⟨none, 0, by rw [h2]; exact h1, fun hl => absurd h2 (by omega)⟩
  · refine ⟨_, cap, rfl, fun _ => ⟨g, rfl, rfl, fun i hi => ?_⟩⟩
    rw [h.1.cellAt i (by omega), List.getElem?_map, List.getElem?_eq_getElem hi]
    simp [hi]

theorem take_snocI (l : List Int) (n : Nat) (h : n < l.length) : l.take (n + 1) = l.take n ++ [l.getD n 0] := by
  rw [List.take_add_one, List.getElem?_eq_getElem h, List.getD_eq_getElem?_getD, List.getElem?_eq_getElem h]; rfl

theorem wrapS {k : Nat} (h : k ≤ 4000000000000) : wrap64 ((k : Int) + 1) = ((k + 1 : Nat) : Int) := by unfold wrap64; omega

set_option maxRecDepth 100000 in
set_option maxHeartbeats 4000000 in
theorem spokes_walk {w : World} {mb n : Nat} {M : MeshM} {F : Nat → Prop} (h : MeshAt w mb n M F) (hv : ∀ a b c, M.ap a b = some c → i64ok c) (hn : n ≤ 1000000000) {a : Int} (ha : i64ok a) :
    Calls Tryz.prog 84 #[.pointer (some ⟨mb, 0, none⟩), .int .i64 a] w fun r w' => ∃ v, r = .returned v ∧ w'.ownsInts w.heap.size 3 .i64 v (spokesL M a) ∧ Below w.heap.size w w' := by
  obtain ⟨ba, bs, bf, pv, sv, h⟩ := h
  have c1 := h.c1
  have c2 := h.c2
  have HC1 := Lib.hid h.c1
  have HF := Lib.hid h.apm
  have HS := lookS (w := w) h.spm ha
  have HROW := Lib.hid (h.rows.at a)
  have HSL := Lib.hid (h.spl a)
  have HMB := Lib.hid (h.flt mb h.fmb)
  have HA := Lib.hid ha
  have HV := Lib.hid hv
  obtain ⟨ad, cap, hsv, hcells⟩ := ints_cells (h.rows.at a)
  rw [hsv] at HS
  have HCE := Lib.hid hcells
  have HBL : Hid (∀ g, (atSv sv a).ownBlock = some g → g < w.heap.size) := fun g hg => ((h.rows.at a).1.lt g hg).2
  have HWF := Lib.hid (h.rows.at a).2
  obtain ⟨i0, hi, hz0, hz1, hz2⟩ := info_parts infoInt
  unfold spokesL
  generalize hzs : M.sp a = zs at *
  clear h hcells ha hv hsv hzs
  go_enter Tryz.func84, Tryz.ntmps84
  go_wp2
  go_loopw [5, 17] (fun s5 s17 wr => ∃ k : Nat, k ≤ zs.length ∧ s17 = .int .i64 k ∧ Hid (wr.ownsInts w.heap.size 3 .i64 s5 (rawOf M.ap a (zs.take k))) ∧ Hid (Below w.heap.size w wr)) (fun _ i _ => zs.length - (intOf i).toNat)
  case atStart => exact ⟨0, Nat.zero_le _, rfl, World.ownsInts_nil _ _ _ _, Below.refl _ _⟩
  case round =>
    obtain ⟨k, hk, rfl, HO, HB⟩ := hrel
    by_cases hlt : k < zs.length
    · obtain ⟨g, rfl, hgb, hce⟩ := HCE.out (by omega)
      have hgl := HBL.out g hgb
      have hc := (HB.out.cell (p := ⟨g, k, none⟩) hgl).trans (hce k hlt)
      have c1' := (HB.out.cell (p := ⟨mb, 1, none⟩) HMB.out).trans HC1.out
      have HBW := Lib.hid (HWF.out (zs.getD k 0) (by rw [List.getD_eq_getElem?_getD, List.getElem?_eq_getElem hlt]; exact List.getElem_mem hlt))
      have HTK := Lib.hid (take_snocI zs k hlt)
      have HLEN : Hid ((rawOf M.ap a (zs.take k)).length ≤ 2000000000) := by unfold Hid; rw [rawOf_len, List.length_take]; have := HSL.out; omega
      clear hce hgb
      generalize zs.getD k 0 = b at *
      have hL := (FMap.look (HF.out.same (w' := wr) (HB.out.block ba HF.out.lt)) edgeLaw Tryz.underlying113 (zeroInt wr) (keyE HA.out (of_wf HBW.out))).1
      rw [edgeV_getD] at hL
      unfold kE at hL
      have HCW : Hid ((Lit.int .i64 ((M.ap a b).getD 0)).wf = true) := by
        cases e : M.ap a b with
        | none => exact wf_of (by unfold i64ok; simp)
        | some c => exact wf_of (HV.out a b c e)
      have HSN := Lib.hid (rawOf_snoc M.ap a (zs.take k) b)
      generalize (M.ap a b).getD 0 = c at *
      go_wp2_with (first | (at_builtin; refine wpList_append_own _ rfl _ _ 72 rfl w.heap.size 3 i0 (.int .i64 0) 1 8 Tryz.underlying72 hi hz0 hz1 hz2 rfl (by decide) u5 (rawOf M.ap a (zs.take k)).length ((rawOf M.ap a (zs.take k)).map (Value.int .i64)) rfl (HO.out.1.alloc _) ⟨wr.heap.size, 0, none⟩ 2 2 [.int .i64 b, .int .i64 c] rfl ?qc1 ?qc2 ?qc3 ?qc4 ?qc5 ?qc6 ?_) | go_in)
      case qc1 => rfl
      case qc2 => exact cells_new wr [.int .i64 b, .int .i64 c] 3
      case qc3 => intro u hu; simp at hu; rcases hu with rfl | rfl <;> rfl
      case qc4 => have := HLEN.out; unfold maxLen; omega
      case qc5 => have := HLEN.out; omega
      case qc6 => have := HB.out.size; simp; omega
      intro v' w2 hown hgrow hnil
      have HO2 : Hid (w2.ownsInts w.heap.size 3 .i64 v' (rawOf M.ap a (zs.take (k + 1)))) := by
        unfold Hid
        rw [HTK.out, HSN.out]
        refine ⟨?_, fun z hz => ?_⟩
        · simpa using hown
        · rcases List.mem_append.1 hz with hz | hz
          · exact HO.out.2 z hz
          · simp only [List.mem_cons, List.not_mem_nil, or_false] at hz
            rcases hz with rfl | rfl
            · exact HBW.out
            · exact HCW.out
      have HB2 : Hid (Below w.heap.size w w2) := (HB.out.alloc HB.out.size _).grown hgrow (by have := HB.out.size; simp; omega) (fun j hj => (HO.out.1.lt j hj).1)
      clear hown hgrow hnil
      go_wp2
      go_roundw
      case rel => exact ⟨k + 1, by omega, (by rw [wrapS (by have := HSL.out; omega)]), HO2.out, HB2.out⟩
      case measure =>
        rw [wrapS (by have := HSL.out; omega)]
        simp [intOf]; omega
    · have e : k = zs.length := by omega
      subst e
      rw [List.take_length] at HO
      have HRL : Hid ((rawOf M.ap a zs).length ≤ 2000000000) := by unfold Hid; rw [rawOf_len]; have := HSL.out; omega
      have HSO := Lib.hid (sortInt_walk HO.out (by have := HRL.out; omega))
      have HCO : Hid (∀ w2, w2.ownsInts w.heap.size 3 .i64 u5 (sortL (rawOf M.ap a zs)) → Calls Tryz.prog 122 #[u5] w2 fun r w' => ∃ v', r = .returned v' ∧ w'.ownsInts w.heap.size 3 .i64 v' (Lib.compact (sortL (rawOf M.ap a zs))) ∧ w2.grownBy w' u5.ownBlock ∧ v'.ownBlock = u5.ownBlock) := fun w2 h2 =>
        compactInt_walk h2 (fun z hz => h2.2 z (compact_sub _ z hz)) (by rw [sortL_len]; have := HRL.out; omega)
      clear hlt hk HS HCE
      go_wp2_with (first
        | (go_at_call 121; refine HSO.out.mono ?_; rintro r w2 ⟨rfl, h2, g2⟩)
        | (go_at_call 122; refine (HCO.out _ h2).mono ?_; rintro r w3 ⟨v3, rfl, h3, g3, e3⟩))
      go_ret
      have b2 : Below w.heap.size w w2 := HB.out.grown g2 HB.out.size (fun j hj => (HO.out.1.lt j hj).1)
      exact ⟨_, rfl, h3, b2.grown g3 b2.size (fun j hj => (HO.out.1.lt j hj).1)⟩

end Go.Proofs.YtdoaniccefdkaaaGreatDoor
