/- (*Mesh).Spokes; the contracts for a caller; works, made. No conditions. -/
import Derived.Test.YthookkmgmholcaaGreatDoorZA
import Derived.Test.YthookkmgmholcaaGreatDoorZ8
import Derived.Test.YthookkmgmholcaaGreatDoorZB
import Derived.Shelf.Sort.Plain
import Derived.Shelf.Slices.CompactI
import Derived.Shelf.SlMaps.Clone
import Derived.Ground.NamesProg
import Derived.Ground.Names2Prog
import Derived.Ground.SlmcProg
import Derived.Shelf.SlGeneric
import Derived.Test.YthookkmgmholcaaGreatDoorChecked
import Derived.Shelf.SlLaysM
import Derived.Ground.SlgmProg
import Derived.Shelf.SortM.SortNone
import Derived.Laws.AppendOwn

/-
  DERIVED: THE SHELF's CONTRACTS AT THIS DUMP, IN PLAIN WORDS (tools/lay-plain.mjs out of 'YthookkmgmholcaaGreatDoorSh3.lean', which tools/lay-shelf.mjs wrote): THE SAME DECLARATIONS UNDER THE SAME NAMES: 'import', 'namespace', 'open', 'def', 'theorem' AND NOTHING ELSE: no command of the shelf's: FOR A HAND-IN. Each laying: the table of numbers ('.._ren') and one theorem, a field a fact of the dump's own or the kernel's comparison; each contract: ONE APPLICATION.
-/
namespace Go.Proofs
open Go.Shelf
def Tryz.sortInt_ren : Go.Shelf.Ren := ⟨fun | 189 => 94 | 125 => 118 | 257 => 117 | 128 => 161 | 129 => 162 | 294 => 152 | 295 => 153 | 296 => 154 | 297 => 155 | 298 => 156 | 299 => 157 | 216 => 158 | 300 => 159 | 301 => 160 | 328 => 198 | 329 => 199 | 330 => 200 | 331 => 201 | 332 => 202 | 215 => 178 | 343 => 232 | n => n, fun | 28 => 65 | 3 => 3 | 46 => 68 | 0 => 0 | 51 => 186 | 53 => 123 | 4 => 4 | 183 => 180 | 182 => 179 | 131 => 46 | 5 => 5 | 9 => 9 | 218 => 209 | 222 => 213 | 228 => 229 | 229 => 230 | n => n, fun | n => n⟩
theorem Tryz.sortInt : Go.Proofs.Lays.n189 Tryz.prog Tryz.sortInt_ren := {
  mixed := by kernel_rfl
  f125 := Tryz.func118.trans (congrArg some (by kernel_rfl))
  f128 := Tryz.func161.trans (congrArg some (by kernel_rfl))
  f129 := Tryz.func162.trans (congrArg some (by kernel_rfl))
  f189 := Tryz.func94.trans (congrArg some (by kernel_rfl))
  f215 := Tryz.func178.trans (congrArg some (by kernel_rfl))
  f216 := Tryz.func158.trans (congrArg some (by kernel_rfl))
  f257 := Tryz.func117.trans (congrArg some (by kernel_rfl))
  f294 := Tryz.func152.trans (congrArg some (by kernel_rfl))
  f295 := Tryz.func153.trans (congrArg some (by kernel_rfl))
  f296 := Tryz.func154.trans (congrArg some (by kernel_rfl))
  f297 := Tryz.func155.trans (congrArg some (by kernel_rfl))
  f298 := Tryz.func156.trans (congrArg some (by kernel_rfl))
  f299 := Tryz.func157.trans (congrArg some (by kernel_rfl))
  f300 := Tryz.func159.trans (congrArg some (by kernel_rfl))
  f301 := Tryz.func160.trans (congrArg some (by kernel_rfl))
  f328 := Tryz.func198.trans (congrArg some (by kernel_rfl))
  f329 := Tryz.func199.trans (congrArg some (by kernel_rfl))
  f330 := Tryz.func200.trans (congrArg some (by kernel_rfl))
  f331 := Tryz.func201.trans (congrArg some (by kernel_rfl))
  f332 := Tryz.func202.trans (congrArg some (by kernel_rfl))
  f343 := Tryz.func232.trans (congrArg some (by kernel_rfl))
  t0 := Tryz.underlying0
  a0 := Tryz.isAgg0
  z0 := Tryz.sizeOf0
  v0 := Tryz.zeroValue0
  t3 := Tryz.underlying3
  a3 := Tryz.isAgg3
  z3 := Tryz.sizeOf3
  v3 := Tryz.zeroValue3
  t4 := Tryz.underlying4
  a4 := Tryz.isAgg4
  z4 := Tryz.sizeOf4
  v4 := Tryz.zeroValue4
  t5 := Tryz.underlying5
  a5 := Tryz.isAgg5
  z5 := Tryz.sizeOf5
  v5 := Tryz.zeroValue5
  t9 := Tryz.underlying9
  a9 := Tryz.isAgg9
  z9 := Tryz.sizeOf9
  v9 := Tryz.zeroValue9
  t28 := Tryz.underlying65
  a28 := Tryz.isAgg65
  z28 := Tryz.sizeOf65
  v28 := Tryz.zeroValue65
  t46 := Tryz.underlying68
  a46 := Tryz.isAgg68
  z46 := Tryz.sizeOf68
  v46 := Tryz.zeroValue68
  t51 := Tryz.underlying186
  a51 := Tryz.isAgg186
  z51 := Tryz.sizeOf186
  v51 := Tryz.zeroValue186
  t53 := Tryz.underlying123
  a53 := Tryz.isAgg123
  z53 := Tryz.sizeOf123
  v53 := Tryz.zeroValue123
  t131 := Tryz.underlying46
  a131 := Tryz.isAgg46
  z131 := Tryz.sizeOf46
  v131 := Tryz.zeroValue46
  t182 := Tryz.underlying179
  a182 := Tryz.isAgg179
  z182 := Tryz.sizeOf179
  v182 := Tryz.zeroValue179
  t183 := Tryz.underlying180
  a183 := Tryz.isAgg180
  z183 := Tryz.sizeOf180
  v183 := Tryz.zeroValue180
  t218 := Tryz.underlying209
  a218 := Tryz.isAgg209
  z218 := Tryz.sizeOf209
  v218 := Tryz.zeroValue209
  t222 := Tryz.underlying213
  a222 := Tryz.isAgg213
  z222 := Tryz.sizeOf213
  v222 := Tryz.zeroValue213
  t228 := Tryz.underlying229
  a228 := Tryz.isAgg229
  z228 := Tryz.sizeOf229
  v228 := Tryz.zeroValue229
  t229 := Tryz.underlying230
  a229 := Tryz.isAgg230
  z229 := Tryz.sizeOf230
  v229 := Tryz.zeroValue230 }
def Tryz.compactInt_ren : Go.Shelf.Ren := ⟨fun | 20 => 95 | n => n, fun | 22 => 65 | 3 => 3 | 4 => 4 | 0 => 0 | n => n, fun | n => n⟩
theorem Tryz.compactInt : Go.Proofs.Lays2.n20 Tryz.prog Tryz.compactInt_ren := {
  mixed := by kernel_rfl
  f20 := Tryz.func95.trans (congrArg some (by kernel_rfl))
  t0 := Tryz.underlying0
  a0 := Tryz.isAgg0
  z0 := Tryz.sizeOf0
  v0 := Tryz.zeroValue0
  t3 := Tryz.underlying3
  a3 := Tryz.isAgg3
  z3 := Tryz.sizeOf3
  v3 := Tryz.zeroValue3
  t4 := Tryz.underlying4
  a4 := Tryz.isAgg4
  z4 := Tryz.sizeOf4
  v4 := Tryz.zeroValue4
  t22 := Tryz.underlying65
  a22 := Tryz.isAgg65
  z22 := Tryz.sizeOf65
  v22 := Tryz.zeroValue65
  i3 := by kernel_rfl }
def Tryz.cloneMap_ren : Go.Shelf.Ren := ⟨fun | 5 => 91 | 7 => 116 | n => n, fun | 23 => 90 | 25 => 94 | 3 => 3 | 4 => 4 | 20 => 20 | n => n, fun | n => n⟩
theorem Tryz.cloneMap : Go.Proofs.SlLaysW.n5 Tryz.prog Tryz.cloneMap_ren := {
  mixed := by kernel_rfl
  f5 := ⟨Tryz.f91.name, by decide, Tryz.func91.trans (congrArg some (by kernel_rfl))⟩
  f7 := Tryz.func116.trans (congrArg some (by kernel_rfl))
  t4 := Tryz.underlying4
  a4 := Tryz.isAgg4
  z4 := Tryz.sizeOf4
  v4 := Tryz.zeroValue4
  t20 := Tryz.underlying20
  a20 := Tryz.isAgg20
  z20 := Tryz.sizeOf20
  v20 := Tryz.zeroValue20
  t23 := Tryz.underlying90
  a23 := Tryz.isAgg90
  z23 := Tryz.sizeOf90
  v23 := Tryz.zeroValue90 }
end Go.Proofs

/-
  DERIVED: THE SHELF's CONTRACTS AT THIS DUMP, IN PLAIN WORDS (tools/lay-plain.mjs out of 'YthookkmgmholcaaGreatDoorSh4.lean', which tools/lay-shelf.mjs wrote): THE SAME DECLARATIONS UNDER THE SAME NAMES: 'import', 'namespace', 'open', 'def', 'theorem' AND NOTHING ELSE: no command of the shelf's: FOR A HAND-IN. Each laying: the table of numbers ('.._ren') and one theorem, a field a fact of the dump's own or the kernel's comparison; each contract: ONE APPLICATION.
-/
namespace Go.Proofs
open Go.Shelf
def Tryz.sortNoneInt_ren : Go.Shelf.Ren := ⟨fun | 5 => 94 | 8 => 118 | 7 => 117 | 19 => 161 | 20 => 162 | 10 => 152 | 11 => 153 | 12 => 154 | 13 => 155 | 14 => 156 | 15 => 157 | 16 => 158 | 17 => 159 | 18 => 160 | 30 => 198 | 31 => 199 | 32 => 200 | 33 => 201 | 34 => 202 | 35 => 178 | 40 => 232 | n => n, fun | 23 => 65 | 25 => 3 | 3 => 3 | 32 => 68 | 22 => 65 | 0 => 0 | 44 => 186 | 46 => 123 | 4 => 4 | 36 => 180 | 35 => 179 | 41 => 46 | 5 => 5 | 9 => 9 | 53 => 209 | 57 => 213 | 63 => 229 | 64 => 230 | n => n, fun | n => n⟩
theorem Tryz.sortNoneInt : Go.Proofs.SlLaysM.n5 Tryz.prog Tryz.sortNoneInt_ren := {
  mixed := by kernel_rfl
  f5 := ⟨Tryz.f94.name, by decide, Tryz.func94.trans (congrArg some (by kernel_rfl))⟩
  f7 := ⟨Tryz.f117.name, by decide, Tryz.func117.trans (congrArg some (by kernel_rfl))⟩
  f8 := Tryz.func118.trans (congrArg some (by kernel_rfl))
  f10 := ⟨Tryz.f152.name, by decide, Tryz.func152.trans (congrArg some (by kernel_rfl))⟩
  f11 := ⟨Tryz.f153.name, by decide, Tryz.func153.trans (congrArg some (by kernel_rfl))⟩
  f12 := ⟨Tryz.f154.name, by decide, Tryz.func154.trans (congrArg some (by kernel_rfl))⟩
  f13 := ⟨Tryz.f155.name, by decide, Tryz.func155.trans (congrArg some (by kernel_rfl))⟩
  f14 := ⟨Tryz.f156.name, by decide, Tryz.func156.trans (congrArg some (by kernel_rfl))⟩
  f15 := ⟨Tryz.f157.name, by decide, Tryz.func157.trans (congrArg some (by kernel_rfl))⟩
  f16 := ⟨Tryz.f158.name, by decide, Tryz.func158.trans (congrArg some (by kernel_rfl))⟩
  f17 := ⟨Tryz.f159.name, by decide, Tryz.func159.trans (congrArg some (by kernel_rfl))⟩
  f18 := ⟨Tryz.f160.name, by decide, Tryz.func160.trans (congrArg some (by kernel_rfl))⟩
  f19 := Tryz.func161.trans (congrArg some (by kernel_rfl))
  f20 := Tryz.func162.trans (congrArg some (by kernel_rfl))
  f30 := ⟨Tryz.f198.name, by decide, Tryz.func198.trans (congrArg some (by kernel_rfl))⟩
  f31 := Tryz.func199.trans (congrArg some (by kernel_rfl))
  f32 := Tryz.func200.trans (congrArg some (by kernel_rfl))
  f33 := ⟨Tryz.f201.name, by decide, Tryz.func201.trans (congrArg some (by kernel_rfl))⟩
  f34 := ⟨Tryz.f202.name, by decide, Tryz.func202.trans (congrArg some (by kernel_rfl))⟩
  f35 := ⟨Tryz.f178.name, by decide, Tryz.func178.trans (congrArg some (by kernel_rfl))⟩
  f40 := ⟨Tryz.f232.name, by decide, Tryz.func232.trans (congrArg some (by kernel_rfl))⟩
  t0 := Tryz.underlying0
  a0 := Tryz.isAgg0
  z0 := Tryz.sizeOf0
  v0 := Tryz.zeroValue0
  t3 := Tryz.underlying3
  a3 := Tryz.isAgg3
  z3 := Tryz.sizeOf3
  v3 := Tryz.zeroValue3
  t4 := Tryz.underlying4
  a4 := Tryz.isAgg4
  z4 := Tryz.sizeOf4
  v4 := Tryz.zeroValue4
  t5 := Tryz.underlying5
  a5 := Tryz.isAgg5
  z5 := Tryz.sizeOf5
  v5 := Tryz.zeroValue5
  t9 := Tryz.underlying9
  a9 := Tryz.isAgg9
  z9 := Tryz.sizeOf9
  v9 := Tryz.zeroValue9
  t22 := Tryz.underlying65
  a22 := Tryz.isAgg65
  z22 := Tryz.sizeOf65
  v22 := Tryz.zeroValue65
  t23 := Tryz.underlying65
  a23 := Tryz.isAgg65
  z23 := Tryz.sizeOf65
  v23 := Tryz.zeroValue65
  t25 := Tryz.underlying3
  a25 := Tryz.isAgg3
  z25 := Tryz.sizeOf3
  v25 := Tryz.zeroValue3
  t32 := Tryz.underlying68
  a32 := Tryz.isAgg68
  z32 := Tryz.sizeOf68
  v32 := Tryz.zeroValue68
  t35 := Tryz.underlying179
  a35 := Tryz.isAgg179
  z35 := Tryz.sizeOf179
  v35 := Tryz.zeroValue179
  t36 := Tryz.underlying180
  a36 := Tryz.isAgg180
  z36 := Tryz.sizeOf180
  v36 := Tryz.zeroValue180
  t41 := Tryz.underlying46
  a41 := Tryz.isAgg46
  z41 := Tryz.sizeOf46
  v41 := Tryz.zeroValue46
  t44 := Tryz.underlying186
  a44 := Tryz.isAgg186
  z44 := Tryz.sizeOf186
  v44 := Tryz.zeroValue186
  t46 := Tryz.underlying123
  a46 := Tryz.isAgg123
  z46 := Tryz.sizeOf123
  v46 := Tryz.zeroValue123
  t53 := Tryz.underlying209
  a53 := Tryz.isAgg209
  z53 := Tryz.sizeOf209
  v53 := Tryz.zeroValue209
  t57 := Tryz.underlying213
  a57 := Tryz.isAgg213
  z57 := Tryz.sizeOf213
  v57 := Tryz.zeroValue213
  t63 := Tryz.underlying229
  a63 := Tryz.isAgg229
  z63 := Tryz.sizeOf229
  v63 := Tryz.zeroValue229
  t64 := Tryz.underlying230
  a64 := Tryz.isAgg230
  z64 := Tryz.sizeOf230
  v64 := Tryz.zeroValue230 }
end Go.Proofs

/- slices.Sort and slices.Compact at a slice of numbers. -/
namespace Go.Proofs.YthookkmgmholcaaGreatDoor
open Go.RowKit Go.Maps Go.WideMaps Go.Sort

def sortL (zs : List Int) : List Int := zs.mergeSort fun x y => decide (x ≤ y)
theorem sortL_len (zs : List Int) : (sortL zs).length = zs.length := (List.mergeSort_perm zs _).length_eq
theorem sortL_mem (zs : List Int) (x : Int) : x ∈ sortL zs ↔ x ∈ zs := (List.mergeSort_perm zs _).mem_iff

theorem owns_grow {w : World} {base e size n : Nat} {v : Value} {xs : List Value} (h : w.ownsRow base e size v n xs) (os : Array Obj) : (grow w os).ownsRow base e size v n xs :=
  ownsRow_same h fun g hg => heap_grow_old _ _ (h.lt g hg).2

theorem grown_grow {w w' : World} {row : Option Nat} (h : w.grownBy w' row) (os : Array Obj) : w.grownBy (grow w' os) row :=
  ⟨h.os, h.tape, h.output, by rw [size_grow]; have := h.size; omega, fun i hi hne => (heap_grow_old _ _ (Nat.lt_of_lt_of_le hi h.size)).trans (h.block i hi hne)⟩

theorem sortInt_walk {w : World} {base : Nat} {v : Value} {zs : List Int} (h : w.ownsInts base 3 .i64 v zs) (hsz : zs.length ≤ 1000000000000) :
    Calls Tryz.prog 94 #[v] w fun r w' => r = .returned (.tuple #[]) ∧ w'.ownsInts base 3 .i64 v (sortL zs) ∧ w.grownBy w' v.ownBlock := by
  have hwf : ∀ z ∈ sortL zs, (Lit.int .i64 z).wf = true := fun z hz => h.2 z ((sortL_mem zs z).1 hz)
  rcases h.1.2 with ⟨rfl, h0⟩ | ⟨g, cap, cur, rfl, hb, hh, hn, hm, hs, ht⟩
  · have : zs = [] := List.length_eq_zero_iff.1 h0
    subst this
    have hc := AnyM.slices_Sort_int_none (P := Tryz.prog) Tryz.sortNoneInt none 0 w
    change Calls Tryz.prog 94 _ _ _ at hc
    refine hc.mono ?_
    rintro r w' ⟨rfl, rfl⟩
    have e : sortL [] = [] := by simp [sortL]
    rw [e]
    exact ⟨rfl, World.ownsInts_nil _ _ _ _, ⟨rfl, rfl, rfl, Nat.le_refl _, fun _ _ _ => rfl⟩⟩
  · have hgl : g < w.heap.size := (Array.getElem?_eq_some_iff.1 hh).1
    have hc := Any.slices_Sort_int (P := Tryz.prog) Tryz.sortInt g 0 cap zs w (owns_holds h.1) hgl (by omega)
    change Calls Tryz.prog 94 _ _ _ at hc
    refine hc.mono ?_
    rintro r w' ⟨rfl, q, os, rfl⟩
    rw [putRow_enc]
    have e := owns_put h.1 q ((sortL zs).toArray.map (Value.int .i64)) (n' := zs.length) (by simp [sortL_len]) (by simp [sortL_len]) (Nat.le_refl _)
    refine ⟨rfl, ⟨?_, hwf⟩, grown_grow (put_grown _ _ _ _ _) _⟩
    rw [sortL_len]
    refine owns_grow ?_ _
    have e2 : (((sortL zs).toArray.map (Value.int .i64)).toList.take (zs.length * 1)) = (sortL zs).map (Value.int .i64) := by
      rw [List.take_of_length_le (by simp [sortL_len])]
      simp
    rw [e2] at e
    exact e

theorem compact_len (zs : List Int) : (Lib.compact zs).length ≤ zs.length := by
  unfold Lib.compact Lib.compactUpTo
  rw [List.length_map]
  exact Nat.le_trans (List.length_filter_le _ _) (by simp)
theorem compact_sub (zs : List Int) (x : Int) (h : x ∈ Lib.compact zs) : x ∈ zs := by
  unfold Lib.compact Lib.compactUpTo at h
  obtain ⟨j, hj, rfl⟩ := List.mem_map.1 h
  have := (List.mem_filter.1 hj).1
  rw [List.mem_range] at this
  rw [getElem!_pos zs.toArray j (by simpa using this)]
  simp

theorem compactInt_walk {w : World} {base : Nat} {v : Value} {zs : List Int} (h : w.ownsInts base 3 .i64 v zs) (hwf : ∀ z ∈ Lib.compact zs, (Lit.int .i64 z).wf = true) (hsz : zs.length ≤ 1000000000000) :
    Calls Tryz.prog 95 #[v] w fun r w' => ∃ v', r = .returned v' ∧ w'.ownsInts base 3 .i64 v' (Lib.compact zs) ∧ w.grownBy w' v.ownBlock ∧ v'.ownBlock = v.ownBlock := by
  rcases h.1.2 with ⟨rfl, h0⟩ | ⟨g, cap, cur, rfl, hb, hh, hn, hm, hs, ht⟩
  · have : zs = [] := List.length_eq_zero_iff.1 h0
    subst this
    have hc := Any.slices_Compact_int_empty (P := Tryz.prog) Tryz.compactInt none 0 w
    change Calls Tryz.prog 95 _ _ _ at hc
    refine hc.mono ?_
    rintro r w' ⟨rfl, rfl⟩
    exact ⟨_, rfl, h, ⟨rfl, rfl, rfl, Nat.le_refl _, fun _ _ _ => rfl⟩, rfl⟩
  · have hc := Any.slices_Compact_int (P := Tryz.prog) Tryz.compactInt g 0 cap zs w (owns_holds h.1) (by omega) hn
    change Calls Tryz.prog 95 _ _ _ at hc
    refine hc.mono ?_
    rintro r w' ⟨rfl, q, rfl⟩
    rw [putRow_enc]
    have hle := compact_len zs
    have e := owns_put h.1 q ((Lib.compact zs ++ List.replicate (zs.length - (Lib.compact zs).length) 0).toArray.map (Value.int .i64)) (n' := (Lib.compact zs).length) (by simp) (by simp; omega) hle
    refine ⟨_, rfl, ⟨?_, hwf⟩, put_grown _ _ _ _ _, rfl⟩
    simpa using e

end Go.Proofs.YthookkmgmholcaaGreatDoor

/- (*Mesh).Spokes. -/
namespace Go.Proofs.YthookkmgmholcaaGreatDoor
open Go.RowKit Go.Maps Go.WideMaps Go.Sort

/-- the points that Spokes gathers, and what it answers -/
def rawOf (ap : Int → Int → Option Int) (a : Int) (l : List Int) : List Int := l.flatMap fun b => [b, (ap a b).getD 0]
def spokesL (M : MeshM) (a : Int) : List Int := Lib.compact (sortL (rawOf M.ap a (M.sp a)))
theorem rawOf_len (ap : Int → Int → Option Int) (a : Int) (l : List Int) : (rawOf ap a l).length = 2 * l.length := by
  induction l with
  | nil => rfl
  | cons x r ih => unfold rawOf at *; rw [List.flatMap_cons, List.length_append, ih]; simp; omega
theorem rawOf_snoc (ap : Int → Int → Option Int) (a : Int) (l : List Int) (b : Int) : rawOf ap a (l ++ [b]) = rawOf ap a l ++ [b, (ap a b).getD 0] := by
  unfold rawOf; rw [List.flatMap_append]; simp
theorem rawOf_wf {ap : Int → Int → Option Int} {a : Int} {l : List Int} (hl : ∀ z ∈ l, (Lit.int .i64 z).wf = true) (ha : ∀ b c, ap a b = some c → i64ok c) : ∀ z ∈ rawOf ap a l, (Lit.int .i64 z).wf = true := by
  intro z hz
  unfold rawOf at hz
  obtain ⟨b, hb, hz⟩ := List.mem_flatMap.1 hz
  simp only [List.mem_cons, List.not_mem_nil, or_false] at hz
  rcases hz with rfl | rfl
  · exact hl _ hb
  · cases e : ap a b with
    | none => exact wf_of (by unfold i64ok; simp)
    | some c => exact wf_of (ha b c e)

/-- the numbers, as the walk reads them -/
theorem ints_cells {w : World} {base : Nat} {v : Value} {zs : List Int} (h : w.ownsInts base 3 .i64 v zs) : ∃ ad cap, v = .slice ad zs.length cap ∧ (0 < zs.length → ∃ g, ad = some ⟨g, 0, none⟩ ∧ v.ownBlock = some g ∧ ∀ i, i < zs.length → w.cell? ⟨g, i, none⟩ = some (.int .i64 (zs.getD i 0))) := by
  rcases h.1.2 with ⟨h1, h2⟩ | ⟨g, cap, cur, rfl, hb, hh, hn, hm, hs, ht⟩
  · exact ⟨none, 0, by rw [h2]; exact h1, fun hl => absurd h2 (by omega)⟩
  · refine ⟨_, cap, rfl, fun _ => ⟨g, rfl, rfl, fun i hi => ?_⟩⟩
    rw [h.1.cellAt i (by omega), List.getElem?_map, List.getElem?_eq_getElem hi]
    simp [hi]

theorem take_snocI (l : List Int) (n : Nat) (h : n < l.length) : l.take (n + 1) = l.take n ++ [l.getD n 0] := by
  rw [List.take_add_one, List.getElem?_eq_getElem h, List.getD_eq_getElem?_getD, List.getElem?_eq_getElem h]; rfl

theorem wrapS {k : Nat} (h : k ≤ 4000000000000) : wrap64 ((k : Int) + 1) = ((k + 1 : Nat) : Int) := by unfold wrap64; omega

set_option maxRecDepth 100000 in
set_option maxHeartbeats 4000000 in
theorem spokes_walk {w : World} {mb n : Nat} {M : MeshM} {F : Nat → Prop} (h : MeshAt w mb n M F) (hv : ∀ a b c, M.ap a b = some c → i64ok c) (hn : n ≤ 1000000000) {a : Int} (ha : i64ok a) :
    Calls Tryz.prog 58 #[.pointer (some ⟨mb, 0, none⟩), .int .i64 a] w fun r w' => ∃ v, r = .returned v ∧ w'.ownsInts w.heap.size 3 .i64 v (spokesL M a) ∧ Below w.heap.size w w' := by
  obtain ⟨ba, bs, bf, pv, sv, h⟩ := h
  have c1 := h.c1
  have c2 := h.c2
  have HC1 := Lib.hid h.c1
  have HF := Lib.hid h.apm
  have HS := lookS (w := w) h.spm ha
  have HROW := Lib.hid (h.rows.at a)
  have HSL := Lib.hid (h.spl a)
  have HMB := Lib.hid (h.flt mb h.fmb)
  have HA := Lib.hid ha
  have HV := Lib.hid hv
  obtain ⟨ad, cap, hsv, hcells⟩ := ints_cells (h.rows.at a)
  rw [hsv] at HS
  have HCE := Lib.hid hcells
  have HBL : Hid (∀ g, (atSv sv a).ownBlock = some g → g < w.heap.size) := fun g hg => ((h.rows.at a).1.lt g hg).2
  have HWF := Lib.hid (h.rows.at a).2
  obtain ⟨i0, hi, hz0, hz1, hz2⟩ := info_parts infoInt
  unfold spokesL
  generalize hzs : M.sp a = zs at *
  clear h hcells ha hv hsv hzs
  go_enter Tryz.func58, Tryz.ntmps58
  go_wp2
  go_loopw [5, 17] (fun s5 s17 wr => ∃ k : Nat, k ≤ zs.length ∧ s17 = .int .i64 k ∧ Hid (wr.ownsInts w.heap.size 3 .i64 s5 (rawOf M.ap a (zs.take k))) ∧ Hid (Below w.heap.size w wr)) (fun _ i _ => zs.length - (intOf i).toNat)
  case atStart => exact ⟨0, Nat.zero_le _, rfl, World.ownsInts_nil _ _ _ _, Below.refl _ _⟩
  case round =>
    obtain ⟨k, hk, rfl, HO, HB⟩ := hrel
    by_cases hlt : k < zs.length
    · obtain ⟨g, rfl, hgb, hce⟩ := HCE.out (by omega)
      have hgl := HBL.out g hgb
      have hc := (HB.out.cell (p := ⟨g, k, none⟩) hgl).trans (hce k hlt)
      have c1' := (HB.out.cell (p := ⟨mb, 1, none⟩) HMB.out).trans HC1.out
      have HBW := Lib.hid (HWF.out (zs.getD k 0) (by rw [List.getD_eq_getElem?_getD, List.getElem?_eq_getElem hlt]; exact List.getElem_mem hlt))
      have HTK := Lib.hid (take_snocI zs k hlt)
      have HLEN : Hid ((rawOf M.ap a (zs.take k)).length ≤ 2000000000) := by unfold Hid; rw [rawOf_len, List.length_take]; have := HSL.out; omega
      clear hce hgb
      generalize zs.getD k 0 = b at *
      have hL := (FMap.look (HF.out.same (w' := wr) (HB.out.block ba HF.out.lt)) edgeLaw Tryz.underlying90 (zeroInt wr) (keyE HA.out (of_wf HBW.out))).1
      rw [edgeV_getD] at hL
      unfold kE at hL
      have HCW : Hid ((Lit.int .i64 ((M.ap a b).getD 0)).wf = true) := by
        cases e : M.ap a b with
        | none => exact wf_of (by unfold i64ok; simp)
        | some c => exact wf_of (HV.out a b c e)
      have HSN := Lib.hid (rawOf_snoc M.ap a (zs.take k) b)
      generalize (M.ap a b).getD 0 = c at *
      go_wp2_with (first | (at_builtin; refine wpList_append_own _ rfl _ _ 65 rfl w.heap.size 3 i0 (.int .i64 0) 1 8 Tryz.underlying65 hi hz0 hz1 hz2 rfl (by decide) u5 (rawOf M.ap a (zs.take k)).length ((rawOf M.ap a (zs.take k)).map (Value.int .i64)) rfl (HO.out.1.alloc _) ⟨wr.heap.size, 0, none⟩ 2 2 [.int .i64 b, .int .i64 c] rfl ?qc1 ?qc2 ?qc3 ?qc4 ?qc5 ?qc6 ?_) | go_in)
      case qc1 => rfl
      case qc2 => exact cells_new wr [.int .i64 b, .int .i64 c] 3
      case qc3 => intro u hu; simp at hu; rcases hu with rfl | rfl <;> rfl
      case qc4 => have := HLEN.out; unfold maxLen; omega
      case qc5 => have := HLEN.out; omega
      case qc6 => have := HB.out.size; simp; omega
      intro v' w2 hown hgrow hnil
      have HO2 : Hid (w2.ownsInts w.heap.size 3 .i64 v' (rawOf M.ap a (zs.take (k + 1)))) := by
        unfold Hid
        rw [HTK.out, HSN.out]
        refine ⟨?_, fun z hz => ?_⟩
        · simpa using hown
        · rcases List.mem_append.1 hz with hz | hz
          · exact HO.out.2 z hz
          · simp only [List.mem_cons, List.not_mem_nil, or_false] at hz
            rcases hz with rfl | rfl
            · exact HBW.out
            · exact HCW.out
      have HB2 : Hid (Below w.heap.size w w2) := (HB.out.alloc HB.out.size _).grown hgrow (by have := HB.out.size; simp; omega) (fun j hj => (HO.out.1.lt j hj).1)
      clear hown hgrow hnil
      go_wp2
      go_roundw
      case rel => exact ⟨k + 1, by omega, (by rw [wrapS (by have := HSL.out; omega)]), HO2.out, HB2.out⟩
      case measure =>
        rw [wrapS (by have := HSL.out; omega)]
        simp [intOf]; omega
    · have e : k = zs.length := by omega
      subst e
      rw [List.take_length] at HO
      have HRL : Hid ((rawOf M.ap a zs).length ≤ 2000000000) := by unfold Hid; rw [rawOf_len]; have := HSL.out; omega
      have HSO := Lib.hid (sortInt_walk HO.out (by have := HRL.out; omega))
      have HCO : Hid (∀ w2, w2.ownsInts w.heap.size 3 .i64 u5 (sortL (rawOf M.ap a zs)) → Calls Tryz.prog 95 #[u5] w2 fun r w' => ∃ v', r = .returned v' ∧ w'.ownsInts w.heap.size 3 .i64 v' (Lib.compact (sortL (rawOf M.ap a zs))) ∧ w2.grownBy w' u5.ownBlock ∧ v'.ownBlock = u5.ownBlock) := fun w2 h2 =>
        compactInt_walk h2 (fun z hz => h2.2 z (compact_sub _ z hz)) (by rw [sortL_len]; have := HRL.out; omega)
      clear hlt hk HS HCE
      go_wp2_with (first
        | (go_at_call 94; refine HSO.out.mono ?_; rintro r w2 ⟨rfl, h2, g2⟩)
        | (go_at_call 95; refine (HCO.out _ h2).mono ?_; rintro r w3 ⟨v3, rfl, h3, g3, e3⟩))
      go_ret
      have b2 : Below w.heap.size w w2 := HB.out.grown g2 HB.out.size (fun j hj => (HO.out.1.lt j hj).1)
      exact ⟨_, rfl, h3, b2.grown g3 b2.size (fun j hj => (HO.out.1.lt j hj).1)⟩

end Go.Proofs.YthookkmgmholcaaGreatDoor

/- The mesh's contracts, for a caller that has made the mesh itself. -/
namespace Go.Proofs.YthookkmgmholcaaGreatDoor
open Go.RowKit Go.Maps Go.WideMaps

/-- block mb of w holds the mesh M, made since w0; it leads to F alone; all else that lay in w0 lies as it did -/
structure MB (w0 w : World) (mb n : Nat) (M : MeshM) (F : Nat → Prop) : Prop where
  at_ : MeshAt w mb n M F
  new : ∀ i, F i → w0.heap.size ≤ i
  keep : Below w0.heap.size w0 w

/-- what the world turned: the mesh's own blocks, and new ones -/
def Fx (F : Nat → Prop) (w w' : World) : Nat → Prop := fun i => F i ∨ (w.heap.size ≤ i ∧ i < w'.heap.size)

theorem MB.below {w0 w w' : World} {mb n : Nat} {M : MeshM} {F : Nat → Prop} (h : MB w0 w mb n M F) (hb : Below w.heap.size w w') : MB w0 w' mb n M F :=
  ⟨h.at_.below hb, h.new, h.keep.trans (hb.mono h.keep.size)⟩
theorem MB.drew {w0 w : World} {mb n : Nat} {M : MeshM} {F : Nat → Prop} (h : MB w0 w mb n M F) : MB w0 w.drew mb n M F := h.below (Below.refl _ _).drew
theorem MB.stay {w0 w w' : World} {mb n n' : Nat} {M M' : MeshM} {F : Nat → Prop} (h : MB w0 w mb n M F) (hs : Stay F w w') (hm : MeshAt w' mb n' M' (Fx F w w')) : MB w0 w' mb n' M' (Fx F w w') := by
  refine ⟨hm, fun i hi => ?_, ⟨hs.os.trans h.keep.os, hs.tape.trans h.keep.tape, hs.output.trans h.keep.output, Nat.le_trans h.keep.size hs.size, fun i hi => ?_⟩⟩
  · rcases hi with hi | hi
    · exact h.new i hi
    · exact Nat.le_trans h.keep.size hi.1
  · rw [hs.block i (Nat.lt_of_lt_of_le hi h.keep.size) (fun e => by have := h.new i e; omega)]
    exact h.keep.block i hi

theorem new_mb (l : List Pt) (ad : Option Addr) (cap : Nat) (h64 : ∀ p, p ∈ l → pt64 p) (hk : allCode l = 0) (hl : l.length ≤ 1048576) (w0 w : World) (hb : Below w0.heap.size w0 w) (hc : PCells w ad l) :
    Calls Tryz.prog 48 #[.slice ad l.length cap] w fun r w' => ∃ mb F, r = .returned (.tuple #[.pointer (some ⟨mb, 0, none⟩), .int .i64 0]) ∧ MB w0 w' mb 0 (emptyM l) F ∧ Below w.heap.size w w' ∧ ∀ i, F i → w.heap.size ≤ i := by
  refine (new_ok l ad cap h64 hk hl w hc).mono ?_
  rintro r w' ⟨mb, rfl, hm, hb'⟩
  exact ⟨mb, _, rfl, ⟨hm, fun i hi => Nat.le_trans hb.size hi.1, hb.trans (hb'.mono hb.size)⟩, hb', fun i hi => hi.1⟩

theorem make_mb {w0 w : World} {mb n : Nat} {M : MeshM} {F : Nat → Prop} (h : MB w0 w mb n M F) (h64 : ∀ p, p ∈ M.P → pt64 p) (hl : M.P.length ≤ 1048576) (hn : n ≤ 1000000000) (a b c : Int) :
    Calls Tryz.prog 43 #[.pointer (some ⟨mb, 0, none⟩), .int .i64 a, .int .i64 b, .int .i64 c] w fun r w' =>
      r = .returned (.int .i64 (makeCode M a b c)) ∧ MB w0 w' mb (n + 3) (makeR M a b c) (Fx F w w') ∧ Stay F w w' := by
  refine (make_walk h.at_ h64 hl hn a b c).mono ?_
  rintro r w' ⟨rfl, hm, hs⟩
  exact ⟨rfl, h.stay hs hm, hs⟩

theorem kill_mb {w0 w : World} {mb n : Nat} {M : MeshM} {F : Nat → Prop} (h : MB w0 w mb n M F) (hn : n ≤ 1000000000) {a b c : Int} (ha : i64ok a) (hb : i64ok b) (hc : i64ok c) :
    Calls Tryz.prog 44 #[.pointer (some ⟨mb, 0, none⟩), .int .i64 a, .int .i64 b, .int .i64 c] w fun r w' =>
      r = .returned (.int .i64 (killCode M a b c)) ∧ MB w0 w' mb (n + 3) (killR M a b c) (Fx F w w') ∧ Stay F w w' := by
  refine (kill_walk h.at_ hn ha hb hc).mono ?_
  rintro r w' ⟨rfl, hm, hs⟩
  exact ⟨rfl, h.stay hs hm, hs⟩

theorem count_mb {w0 w : World} {mb n : Nat} {M : MeshM} {F : Nat → Prop} (h : MB w0 w mb n M F) :
    Calls Tryz.prog 39 #[.pointer (some ⟨mb, 0, none⟩)] w fun r w' => r = .returned (.int .i64 M.cnt) ∧ w' = w := count_walk h.at_

theorem apex_mb {w0 w : World} {mb n : Nat} {M : MeshM} {F : Nat → Prop} (h : MB w0 w mb n M F) {a b : Int} (ha : i64ok a) (hb : i64ok b) :
    Calls Tryz.prog 24 #[.pointer (some ⟨mb, 0, none⟩), .int .i64 a, .int .i64 b] w fun r w' => r = .returned (.tuple #[.int .i64 ((M.ap a b).getD 0), .bool (M.ap a b).isSome]) ∧ w' = w := apex_walk h.at_ ha hb

/-- a row of k cells an element, as the walk reads it -/
def KCells {α : Type} (enc : α → List Value) (w : World) (ad : Option Addr) (l : List α) : Prop :=
  0 < l.length → ∃ g, ad = some ⟨g, 0, none⟩ ∧ g < w.heap.size ∧ ∀ j u, (cellsK enc l)[j]? = some u → w.cell? ⟨g, j, none⟩ = some u

theorem owns_kcells {α : Type} {enc : α → List Value} {k base e : Nat} {w : World} {v : Value} {l : List α} (h : w.ownsRow base e k v l.length (cellsK enc l)) :
    ∃ ad cap, v = .slice ad l.length cap ∧ KCells enc w ad l ∧ ∀ g, ad = some g → base ≤ g.block ∧ g.block < w.heap.size := by
  rcases h.2 with ⟨h1, h2⟩ | ⟨g, cap, cur, rfl, hb, hh, hn, hm, hs, ht⟩
  · exact ⟨none, 0, by rw [h2]; exact h1, fun hl => absurd h2 (by omega), fun g hg => by cases hg⟩
  · refine ⟨_, cap, rfl, fun _ => ⟨g, rfl, (h.lt g rfl).2, fun j u hu => ?_⟩, fun a ha => by cases ha; exact h.lt g rfl⟩
    have hl := h.1
    have hj : j < l.length * k := by
      rw [← hl]; exact (List.getElem?_eq_some_iff.1 hu).1
    rw [h.cellAt j hj]; exact hu

theorem tris_mb {w0 w : World} {mb n : Nat} {M : MeshM} {F : Nat → Prop} (h : MB w0 w mb n M F) (hs : Sound M) (hl : M.P.length ≤ 1048576) :
    Calls Tryz.prog 23 #[.pointer (some ⟨mb, 0, none⟩)] w fun r w' => ∃ ad cap, r = .returned (.slice ad (trisL M.ap M.P.length).length cap) ∧ KCells encT w' ad (trisL M.ap M.P.length) ∧ (∀ g, ad = some g → w.heap.size < g.block ∧ g.block < w'.heap.size) ∧ MB w0 w' mb n M F ∧ Below w.heap.size w w' := by
  refine (tris_walk h.at_ hs.win hl).mono ?_
  rintro r w' ⟨v, rfl, ho, hb⟩
  obtain ⟨ad, cap, rfl, hc, hg⟩ := owns_kcells ho
  exact ⟨ad, cap, rfl, hc, fun g e => by have := hg g e; omega, h.below hb, hb⟩

theorem border_mb {w0 w : World} {mb n : Nat} {M : MeshM} {F : Nat → Prop} (h : MB w0 w mb n M F) (hs : Sound M) (hl : M.P.length ≤ 1048576) :
    Calls Tryz.prog 38 #[.pointer (some ⟨mb, 0, none⟩)] w fun r w' => ∃ ad cap, r = .returned (.slice ad (bordL M.ap M.P.length).length cap) ∧ KCells encP w' ad (bordL M.ap M.P.length) ∧ (∀ g, ad = some g → w.heap.size < g.block ∧ g.block < w'.heap.size) ∧ MB w0 w' mb n M F ∧ Below w.heap.size w w' := by
  refine (border_walk h.at_ hs.win hl).mono ?_
  rintro r w' ⟨v, rfl, ho, hb⟩
  obtain ⟨ad, cap, rfl, hc, hg⟩ := owns_kcells ho
  exact ⟨ad, cap, rfl, hc, fun g e => by have := hg g e; omega, h.below hb, hb⟩

theorem edges_mb {w0 w : World} {mb n : Nat} {M : MeshM} {F : Nat → Prop} (h : MB w0 w mb n M F) (hs : Sound M) (hl : M.P.length ≤ 1048576) :
    Calls Tryz.prog 34 #[.pointer (some ⟨mb, 0, none⟩)] w fun r w' => ∃ ad cap, r = .returned (.slice ad (edgeL M.ap M.P.length).length cap) ∧ KCells encP w' ad (edgeL M.ap M.P.length) ∧ (∀ g, ad = some g → w.heap.size < g.block ∧ g.block < w'.heap.size) ∧ MB w0 w' mb n M F ∧ Below w.heap.size w w' := by
  refine (edges_walk h.at_ hs.win hs.rot hl).mono ?_
  rintro r w' ⟨v, rfl, ho, hb⟩
  obtain ⟨ad, cap, rfl, hc, hg⟩ := owns_kcells ho
  exact ⟨ad, cap, rfl, hc, fun g e => by have := hg g e; omega, h.below hb, hb⟩

theorem Sound.i64 {M : MeshM} (h : Sound M) (hl : M.P.length ≤ 1048576) {a b c : Int} (e : M.ap a b = some c) : i64ok a ∧ i64ok b ∧ i64ok c := by
  have := h.within3 e
  unfold i64ok; omega

theorem spokes_mb {w0 w : World} {mb n : Nat} {M : MeshM} {F : Nat → Prop} (h : MB w0 w mb n M F) (hs : Sound M) (hl : M.P.length ≤ 1048576) (hn : n ≤ 1000000000) {a : Int} (ha : i64ok a) :
    Calls Tryz.prog 58 #[.pointer (some ⟨mb, 0, none⟩), .int .i64 a] w fun r w' => ∃ ad cap, r = .returned (.slice ad (spokesL M a).length cap) ∧ MB w0 w' mb n M F ∧ Below w.heap.size w w' := by
  refine (spokes_walk h.at_ (fun a b c e => (hs.i64 hl e).2.2) hn ha).mono ?_
  rintro r w' ⟨v, rfl, ho, hb⟩
  obtain ⟨ad, cap, rfl, _⟩ := ints_cells (ho)
  exact ⟨ad, cap, rfl, h.below hb, hb⟩

theorem KCells.below {α : Type} {enc : α → List Value} {w w' : World} {ad : Option Addr} {l : List α} (h : KCells enc w ad l) (hb : Below w.heap.size w w') : KCells enc w' ad l := by
  intro hl
  obtain ⟨g, rfl, hg, hc⟩ := h hl
  exact ⟨g, rfl, Nat.lt_of_lt_of_le hg hb.size, fun j u hu => (hb.cell (p := ⟨g, j, none⟩) hg).trans (hc j u hu)⟩

theorem KCells.stay {α : Type} {enc : α → List Value} {w w' : World} {F : Nat → Prop} {ad : Option Addr} {l : List α} (h : KCells enc w ad l) (hs : Stay F w w') (hF : ∀ g, ad = some g → ¬F g.block) : KCells enc w' ad l := by
  intro hl
  obtain ⟨g, rfl, hg, hc⟩ := h hl
  exact ⟨g, rfl, Nat.lt_of_lt_of_le hg hs.size, fun j u hu => (World.cell?_of_block (hs.block g hg (hF _ rfl))).trans (hc j u hu)⟩

end Go.Proofs.YthookkmgmholcaaGreatDoor

/- The square of the examples, plainly. -/
namespace Go.Proofs.YthookkmgmholcaaGreatDoor
open Go.RowKit Tvf

def sqP : List Pt := [(0, 0), (4611686018427387904, 0), (0, 4611686018427387904), (4611686018427387904, 4611686018427387904)]
def sq1 : MeshM := makeR (emptyM sqP) 0 1 2
def sqM : MeshM := makeR sq1 1 3 2
theorem sq_64 : ∀ p, p ∈ sqP → pt64 p := by
  intro p hp
  simp only [sqP, List.mem_cons, List.not_mem_nil, or_false] at hp
  unfold pt64
  rcases hp with rfl | rfl | rfl | rfl <;> decide
theorem sq_all : allCode sqP = 0 := by decide +kernel
theorem sq_c1 : makeCode (emptyM sqP) 0 1 2 = 0 := by decide +kernel
theorem sq_c2 : makeCode sq1 1 3 2 = 0 := by decide +kernel
theorem sq_cnt : sqM.cnt = 2 := by decide +kernel
theorem sq_P : sqM.P.length = 4 := by decide +kernel
theorem sq_a1 : sqM.ap 1 2 = some 0 := by decide +kernel
theorem sq_a2 : sqM.ap 2 1 = some 3 := by decide +kernel
theorem sq_tris : trisL sqM.ap sqM.P.length = [(0, 1, 2), (1, 3, 2)] := by decide +kernel
theorem sq_bord : bordL sqM.ap sqM.P.length = [(0, 1), (1, 3), (2, 0), (3, 2)] := by decide +kernel
theorem sq_edge : (edgeL sqM.ap sqM.P.length).length = 5 := by decide +kernel
theorem sq_raw : rawOf sqM.ap 0 (sqM.sp 0) = [1, 2] := by decide +kernel
theorem sq_spokes : (spokesL sqM 0).length = 2 := by
  unfold spokesL
  rw [sq_raw]
  have : sortL [1, 2] = [1, 2] := by unfold sortL; rw [List.mergeSort_of_pairwise]; simp
  rw [this]
  decide +kernel
theorem sq1_P : sq1.P = sqP := makeR_P _ _ _ _
theorem sqM_P : sqM.P = sqP := (makeR_P _ _ _ _).trans sq1_P
theorem sqP_len : sqP.length = 4 := rfl
theorem sq_sound : Sound sqM := makeR_sound (makeR_sound (emptyM_sound _) _ _ _) _ _ _

end Go.Proofs.YthookkmgmholcaaGreatDoor

/- trivetlaw15.square, works. -/
namespace Go.Proofs.YthookkmgmholcaaGreatDoor
open Go.RowKit Go.Maps Go.WideMaps

theorem square_walk (w : World) : Calls Tryz.prog 56 #[] w fun r w' => ∃ g, r = .returned (.slice (some ⟨g, 0, none⟩) 4 4) ∧ PCells w' (some ⟨g, 0, none⟩) sqP ∧ Below w.heap.size w w' := by
  go_enter Tryz.func56, Tryz.ntmps56
  go_wp2
  go_ret
  refine ⟨_, rfl, ?_, (Below.refl _ w).alloc (Nat.le_refl _) _⟩
  intro _
  refine ⟨_, 0, rfl, by simp, fun i hi => ?_⟩
  have : i = 0 ∨ i = 1 ∨ i = 2 ∨ i = 3 := by simp [sqP] at hi; omega
  rw [World.cell?_alloc_at _ _ _ _ rfl, World.cell?_alloc_at _ _ _ _ rfl]
  rcases this with rfl | rfl | rfl | rfl <;> exact ⟨rfl, rfl⟩

theorem sq_small : sqM.P.length ≤ 1048576 := by rw [sqM_P, sqP_len]; omega

theorem sq_tris_walk {w0 w : World} {mb : Nat} {F : Nat → Prop} (h : MB w0 w mb 6 sqM F) :
    Calls Tryz.prog 23 #[.pointer (some ⟨mb, 0, none⟩)] w fun r w' => ∃ g cap, r = .returned (.slice (some ⟨g, 0, none⟩) 2 cap) ∧ MB w0 w' mb 6 sqM F ∧
      Hid (∀ w2, Below w'.heap.size w' w2 → w2.cell? ⟨g, 3, none⟩ = some (.int .i64 1) ∧ w2.cell? ⟨g, 4, none⟩ = some (.int .i64 3) ∧ w2.cell? ⟨g, 5, none⟩ = some (.int .i64 2)) := by
  have hc := tris_mb h sq_sound sq_small
  rw [sq_tris] at hc
  refine hc.mono ?_
  rintro r w' ⟨ad, cap, rfl, hk, _, hm, hb⟩
  obtain ⟨g, rfl, hg, hcc⟩ := hk (by decide)
  exact ⟨g, cap, rfl, hm, fun w2 h2 => ⟨(h2.cell (p := ⟨g, 3, none⟩) hg).trans (hcc 3 _ rfl), (h2.cell (p := ⟨g, 4, none⟩) hg).trans (hcc 4 _ rfl), (h2.cell (p := ⟨g, 5, none⟩) hg).trans (hcc 5 _ rfl)⟩⟩

theorem sq_bord_walk {w0 w : World} {mb : Nat} {F : Nat → Prop} (h : MB w0 w mb 6 sqM F) :
    Calls Tryz.prog 38 #[.pointer (some ⟨mb, 0, none⟩)] w fun r w' => ∃ g cap, r = .returned (.slice (some ⟨g, 0, none⟩) 4 cap) ∧ MB w0 w' mb 6 sqM F ∧ Below w.heap.size w w' ∧
      Hid (∀ w2, Below w'.heap.size w' w2 → w2.cell? ⟨g, 4, none⟩ = some (.int .i64 2) ∧ w2.cell? ⟨g, 5, none⟩ = some (.int .i64 0)) := by
  have hc := border_mb h sq_sound sq_small
  rw [sq_bord] at hc
  refine hc.mono ?_
  rintro r w' ⟨ad, cap, rfl, hk, _, hm, hb⟩
  obtain ⟨g, rfl, hg, hcc⟩ := hk (by decide)
  exact ⟨g, cap, rfl, hm, hb, fun w2 h2 => ⟨(h2.cell (p := ⟨g, 4, none⟩) hg).trans (hcc 4 _ rfl), (h2.cell (p := ⟨g, 5, none⟩) hg).trans (hcc 5 _ rfl)⟩⟩

theorem sq_eqT (w : World) : (binOp .eql 32 (.agg #[.int .i64 1, .int .i64 3, .int .i64 2]) (.agg #[.int .i64 1, .int .i64 3, .int .i64 2])).run Tryz.prog w = .ok (.bool true) w := by kernel_rfl
theorem sq_eqP (w : World) : (binOp .eql 54 (.agg #[.int .i64 2, .int .i64 0]) (.agg #[.int .i64 2, .int .i64 0])).run Tryz.prog w = .ok (.bool true) w := by kernel_rfl

set_option maxRecDepth 100000 in
set_option maxHeartbeats 4000000 in
theorem works_walk (w : World) : Calls Tryz.prog 36 #[] w fun r w' => r = .returned (.bool true) ∧ Below w.heap.size w w' := by
  have HSQ := Lib.hid (square_walk w)
  have HN := Lib.hid (fun w1 g (hb : Below w.heap.size w w1) (hc : PCells w1 (some ⟨g, 0, none⟩) sqP) => new_mb sqP (some ⟨g, 0, none⟩) 4 sq_64 sq_all (by rw [sqP_len]; omega) w w1 hb hc)
  rw [sqP_len] at HN
  have HM1 : Hid (∀ w2 mb F, MB w w2 mb 0 (emptyM sqP) F → Calls Tryz.prog 43 #[.pointer (some ⟨mb, 0, none⟩), .int .i64 0, .int .i64 1, .int .i64 2] w2 fun r w' => r = .returned (.int .i64 0) ∧ ∃ G, MB w w' mb 3 sq1 G) := fun w2 mb F h =>
    (make_mb h sq_64 (by show sqP.length ≤ 1048576; rw [sqP_len]; omega) (by omega) 0 1 2).mono fun r w' ⟨he, hm, _⟩ => ⟨by rw [he, sq_c1], _, hm⟩
  have HM2 : Hid (∀ w2 mb F, MB w w2 mb 3 sq1 F → Calls Tryz.prog 43 #[.pointer (some ⟨mb, 0, none⟩), .int .i64 1, .int .i64 3, .int .i64 2] w2 fun r w' => r = .returned (.int .i64 0) ∧ ∃ G, MB w w' mb 6 sqM G) := fun w2 mb F h =>
    (make_mb h (by rw [sq1_P]; exact sq_64) (by rw [sq1_P, sqP_len]; omega) (by omega) 1 3 2).mono fun r w' ⟨he, hm, _⟩ => ⟨by rw [he, sq_c2], _, hm⟩
  have HCN := Lib.hid (fun w2 mb F (h : MB w w2 mb 6 sqM F) => count_mb h)
  rw [sq_cnt] at HCN
  have HA1 := Lib.hid (fun w2 mb F (h : MB w w2 mb 6 sqM F) => apex_mb h (a := 1) (b := 2) (by unfold i64ok; omega) (by unfold i64ok; omega))
  rw [sq_a1] at HA1
  have HA2 := Lib.hid (fun w2 mb F (h : MB w w2 mb 6 sqM F) => apex_mb h (a := 2) (b := 1) (by unfold i64ok; omega) (by unfold i64ok; omega))
  rw [sq_a2] at HA2
  have HT := Lib.hid (fun w2 mb F (h : MB w w2 mb 6 sqM F) => sq_tris_walk h)
  have HB := Lib.hid (fun w2 mb F (h : MB w w2 mb 6 sqM F) => sq_bord_walk h)
  have HE := Lib.hid (fun w2 mb F (h : MB w w2 mb 6 sqM F) => edges_mb h sq_sound sq_small)
  rw [sq_edge] at HE
  have HS := Lib.hid (fun w2 mb F (h : MB w w2 mb 6 sqM F) => spokes_mb h sq_sound sq_small (by omega) (a := 0) (by unfold i64ok; omega))
  rw [sq_spokes] at HS
  simp only [Option.getD_some, Option.isSome_some] at HA1 HA2
  have hq1 := sq_eqT
  have hq2 := sq_eqP
  go_enter Tryz.func36, Tryz.ntmps36
  go_wp2_with (first
    | (go_at_call 56; with_reducible refine HSQ.out.mono ?_; rintro r w1 ⟨g, rfl, hp1, hb1⟩)
    | (go_at_call 48; with_reducible refine (HN.out _ _ hb1 hp1).mono ?_; rintro r w2 ⟨mb, F, rfl, hm2, _, _⟩)
    | (go_at_call 43; with_reducible refine (HM1.out _ _ _ hm2).mono ?_; rintro r w3 ⟨rfl, G3, hm3⟩)
    | (go_at_call 43; with_reducible refine (HM2.out _ _ _ hm3).mono ?_; rintro r w4 ⟨rfl, G4, hm4⟩)
    | (go_at_call 39; with_reducible refine (HCN.out _ _ _ hm4).mono ?_; rintro r w5 ⟨rfl, rfl⟩)
    | (go_at_call 24; with_reducible refine (HA1.out _ _ _ hm4).mono ?_; rintro r w5 ⟨rfl, rfl⟩)
    | (go_at_call 24; with_reducible refine (HA2.out _ _ _ hm4).mono ?_; rintro r w5 ⟨rfl, rfl⟩)
    | (go_at_call 23; with_reducible refine (HT.out _ _ _ hm4).mono ?_; rintro r w5 ⟨g5, cap5, rfl, hm5, hc5⟩)
    | (go_at_call 38; with_reducible refine (HB.out _ _ _ hm5).mono ?_; rintro r w6 ⟨g6, cap6, rfl, hm6, hb6, hc6⟩; obtain ⟨t3, t4, t5⟩ := hc5.out _ hb6)
    | (go_at_call 34; with_reducible refine (HE.out _ _ _ hm6).mono ?_; rintro r w7 ⟨ad7, cap7, rfl, _, _, hm7, hb7⟩; obtain ⟨l4, l5⟩ := hc6.out _ hb7)
    | (go_at_call 58; with_reducible refine (HS.out _ _ _ hm7).mono ?_; rintro r w8 ⟨ad8, cap8, rfl, hm8, hb8⟩))
  go_ret
  exact ⟨rfl, hm8.keep⟩

end Go.Proofs.YthookkmgmholcaaGreatDoor

/- trivetlaw15.made. -/
namespace Go.Proofs.YthookkmgmholcaaGreatDoor
open Go.RowKit Go.Maps Go.WideMaps

/-- triangles that came in, as the walk reads them -/
def TCells (w : World) (ad : Option Addr) (l : List Tri3) : Prop :=
  0 < l.length → ∃ b off, ad = some ⟨b, off, none⟩ ∧ b < w.heap.size ∧ ∀ i, i < l.length →
    w.cell? ⟨b, off + i * 3, none⟩ = some (.int .i64 (l.getD i (0, 0, 0)).1) ∧ w.cell? ⟨b, off + i * 3 + 1, none⟩ = some (.int .i64 (l.getD i (0, 0, 0)).2.1) ∧ w.cell? ⟨b, off + i * 3 + 2, none⟩ = some (.int .i64 (l.getD i (0, 0, 0)).2.2)
theorem TCells.below {w w' : World} {ad : Option Addr} {l : List Tri3} (h : TCells w ad l) (hb : Below w.heap.size w w') : TCells w' ad l := by
  intro hl
  obtain ⟨b, off, rfl, hbb, hc⟩ := h hl
  exact ⟨b, off, rfl, Nat.lt_of_lt_of_le hbb hb.size, fun i hi => ⟨(hb.cell (p := ⟨b, off + i * 3, none⟩) hbb).trans (hc i hi).1, (hb.cell (p := ⟨b, off + i * 3 + 1, none⟩) hbb).trans (hc i hi).2.1, (hb.cell (p := ⟨b, off + i * 3 + 2, none⟩) hbb).trans (hc i hi).2.2⟩⟩
theorem take_snocT (l : List Tri3) (n : Nat) (h : n < l.length) : l.take (n + 1) = l.take n ++ [l.getD n (0, 0, 0)] := by
  rw [List.take_add_one, List.getElem?_eq_getElem h, List.getD_eq_getElem?_getD, List.getElem?_eq_getElem h]; rfl

set_option maxRecDepth 100000 in
set_option maxHeartbeats 1000000 in
theorem made_nil (l : List Pt) (ad : Option Addr) (cap : Nat) (vt : Value) (h64 : ∀ p, p ∈ l → pt64 p) (hk : allCode l ≠ 0) (w : World) (hc : PCells w ad l) :
    Calls Tryz.prog 37 #[.slice ad l.length cap, vt] w fun r w' => r = .returned (.pointer none) ∧ Below w.heap.size w w' := by
  have HN := Lib.hid (new_bad l ad cap h64 hk w hc)
  clear hc h64
  generalize allCode l = e at *
  go_enter Tryz.func37, Tryz.ntmps37
  go_wp2_with (go_at_call 48; refine HN.out.mono ?_; rintro r w1 ⟨rfl, hb1⟩)
  go_ret
  exact ⟨rfl, hb1⟩

set_option maxRecDepth 100000 in
set_option maxHeartbeats 2000000 in
theorem made_ok (l : List Pt) (ad : Option Addr) (cap : Nat) (T : List Tri3) (at_ : Option Addr) (capt : Nat) (h64 : ∀ p, p ∈ l → pt64 p) (hk : allCode l = 0) (hl : l.length ≤ 1048576) (hT : T.length ≤ 1000000) (w : World) (hc : PCells w ad l) (hct : TCells w at_ T) :
    Calls Tryz.prog 37 #[.slice ad l.length cap, .slice at_ T.length capt] w fun r w' => ∃ mb F, r = .returned (.pointer (some ⟨mb, 0, none⟩)) ∧ MB w w' mb (3 * T.length) (foldM (emptyM l) T) F := by
  have HN := Lib.hid (new_mb l ad cap h64 hk hl w w (Below.refl _ _) hc)
  have HTC := Lib.hid hct
  have H64 := Lib.hid h64
  have HL := Lib.hid hl
  have HTL := Lib.hid hT
  clear h64 hk hl hc hct hT
  go_enter Tryz.func37, Tryz.ntmps37
  go_wp2_with (go_at_call 48; refine HN.out.mono ?_; rintro r w1 ⟨mb, F, rfl, hm1, _, _⟩)
  have HM1 := Lib.hid hm1
  clear hm1
  go_loopw [7] (fun s7 wr => ∃ (k : Nat) (F : Nat → Prop), k ≤ T.length ∧ s7 = .int .i64 k ∧ Hid (MB w wr mb (3 * k) (foldM (emptyM l) (T.take k)) F)) (fun i _ => T.length - (intOf i).toNat)
  case atStart => exact ⟨0, F, Nat.zero_le _, rfl, HM1.out⟩
  case round =>
    obtain ⟨k, G, hk, rfl, HM⟩ := hrel
    by_cases hlt : k < T.length
    · obtain ⟨b, off, rfl, _, hcc⟩ := (HTC.out.below HM.out.keep) (by omega)
      obtain ⟨q0, q1, q2⟩ := hcc k hlt
      have HTS := Lib.hid (take_snocT T k hlt)
      clear hcc
      generalize T.getD k (0, 0, 0) = t at *
      obtain ⟨ta, tb, tc⟩ := t
      dsimp only at q0 q1 q2
      have HMK := Lib.hid (make_mb HM.out.drew (by rw [foldM_P]; exact H64.out) (by rw [foldM_P]; exact HL.out) (by have := HTL.out; omega) ta tb tc)
      have HFS : Hid (foldM (emptyM l) (T.take (k + 1)) = makeR (foldM (emptyM l) (T.take k)) ta tb tc) := by unfold Hid; rw [HTS.out, foldM_snoc]
      go_wp2
      go_still_tail 16, (by kernel_rfl)
      go_wp2_with (go_at_call 43; refine HMK.out.mono ?_; rintro r w2 ⟨rfl, hm2, _⟩)
      have HM2 : Hid (MB w w2 mb (3 * (k + 1)) (foldM (emptyM l) (T.take (k + 1))) (Fx G wr.drew w2)) := by unfold Hid; rw [HFS.out]; exact hm2
      clear hm2 q0 q1 q2
      go_roundw
      case rel => exact ⟨k + 1, _, by omega, (by have := HTL.out; first | rfl | rw [wrapS (by omega)]), HM2.out⟩
      case measure => have := HTL.out; first | (simp [intOf]; omega) | (rw [wrapS (by omega)]; simp [intOf]; omega)
    · have e : k = T.length := by omega
      subst e
      rw [List.take_length] at HM
      clear hlt hk
      go_wp2
      go_ret
      exact ⟨mb, G, rfl, HM.out⟩

end Go.Proofs.YthookkmgmholcaaGreatDoor
