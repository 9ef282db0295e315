/- (*Mesh).Tris. No conditions. -/
import Derived.Test.YthookkmgmholcaaGreatDoorZ8
import Derived.Test.YthookkmgmholcaaGreatDoorZ7
import Derived.Test.YthookkmgmholcaaGreatDoorZ9
import Derived.Shelf.SlSortCmp.WholeK
import Derived.Shelf.SlLaysF0
import Derived.Ground.SlsfProg
import Derived.Shelf.SlGeneric
import Derived.Test.YthookkmgmholcaaGreatDoorChecked
import Derived.Shelf.SlSortCmp.NoneTotal
import Derived.Laws.AppendOwn

/- Rows of k cells an element, and what slices.SortFunc leaves of one. -/
namespace Go.Proofs.YthookkmgmholcaaGreatDoor
open Go.RowKit Go.Maps Go.WideMaps Go.Sort

section
variable {α : Type} {enc : α → List Value} {k : Nat}

/-- a row's cells -/
def cellsK (enc : α → List Value) (l : List α) : List Value := l.flatMap enc
theorem cellsK_len (hk : ∀ x, (enc x).length = k) (l : List α) : (cellsK enc l).length = l.length * k := by
  induction l with
  | nil => simp [cellsK]
  | cons x r ih =>
    unfold cellsK at *
    rw [List.flatMap_cons, List.length_append, ih, hk, List.length_cons, Nat.add_mul]; omega
theorem cellsK_append (l r : List α) : cellsK enc (l ++ r) = cellsK enc l ++ cellsK enc r := by unfold cellsK; rw [List.flatMap_append]
theorem cellsK_one (x : α) : cellsK enc [x] = enc x := by unfold cellsK; simp
theorem cellsK_at (hk : ∀ x, (enc x).length = k) : ∀ (l : List α) (i : Nat) (hi : i < l.length) (j : Nat), j < k → (cellsK enc l)[i * k + j]? = (enc l[i])[j]?
  | [], i, hi, _, _ => absurd hi (by simp)
  | x :: r, 0, _, j, hj => by
    unfold cellsK
    rw [List.flatMap_cons, List.getElem?_append_left (by rw [hk]; omega)]
    simp
  | x :: r, i + 1, hi, j, hj => by
    have ih := cellsK_at hk r i (by simpa using hi) j hj
    unfold cellsK at *
    rw [List.flatMap_cons, List.getElem?_append_right (by rw [hk, Nat.add_mul]; omega), hk]
    rw [show (i + 1) * k + j - k = i * k + j by rw [Nat.add_mul]; omega, ih]
    simp

end

section
variable {α : Type} [Inhabited α] {enc : α → List Value} {k : Nat}

theorem flatK_list (hk : ∀ x, (enc x).length = k) (d : Array α) : (flatK enc k d).toList = cellsK enc d.toList := by
  apply List.ext_getElem?
  intro t
  by_cases ht : t < d.size * k
  · have hkp : 0 < k := by
      rcases Nat.eq_zero_or_pos k with h | h
      · subst h; simp at ht
      · exact h
    have hq : t / k < d.size := Nat.div_lt_of_lt_mul (by rw [Nat.mul_comm]; exact ht)
    have e : t = t / k * k + t % k := by have := Nat.div_add_mod t k; rw [Nat.mul_comm] at this; omega
    have h1 : (flatK enc k d).toList[t]? = some ((flatK enc k d)[t]!) := by
      rw [Array.getElem?_toList, Array.getElem?_eq_getElem (by rw [size_flatK]; exact ht), getElem!_pos (flatK enc k d) t (by rw [size_flatK]; exact ht)]
    rw [h1, get_flatK _ _ _ _ ht]
    conv => rhs; rw [e]
    rw [cellsK_at hk d.toList (t / k) (by simpa using hq) (t % k) (Nat.mod_lt _ hkp)]
    have hm : t % k < (enc d[t / k]!).length := by rw [hk]; exact Nat.mod_lt _ hkp
    rw [getElem!_pos (enc d[t / k]!) (t % k) hm]
    have hd : d[t / k]! = d.toList[t / k]'(by simpa using hq) := by rw [getElem!_pos d _ hq]; simp
    simp only [hd] at hm ⊢
    rw [List.getElem?_eq_getElem hm]
  · rw [List.getElem?_eq_none (by rw [Array.length_toList, size_flatK]; omega), List.getElem?_eq_none (by rw [cellsK_len hk, Array.length_toList]; omega)]

theorem owns_holdsK (hk : ∀ x, (enc x).length = k) {w : World} {base e g cap : Nat} {l : List α} (h : w.ownsRow base e k (.slice (some ⟨g, 0, none⟩) l.length cap) l.length (cellsK enc l)) : HoldsK enc k w g 0 l.toArray := by
  unfold HoldsK
  intro j hj
  rw [size_flatK, List.size_toArray] at hj
  refine ⟨?_, owns_frozen h _⟩
  rw [Nat.zero_add, h.cellAt j hj, ← flatK_list hk l.toArray, Array.getElem?_toList, Array.getElem?_eq_getElem (by rw [size_flatK]; exact hj), getElem!_pos (flatK enc k l.toArray) j (by rw [size_flatK]; exact hj)]
  rfl

theorem permIn_list {l : List α} {d : Array α} (h : PermIn 0 l.length l.toArray d) : d.toList.Perm l := by
  have h1 : d.size = l.length := by have := h.1; simpa using this
  have h3 := h.2.2
  have e1 : d.extract 0 l.length = d := Array.extract_eq_self_of_le (by omega)
  have e2 : l.toArray.extract 0 l.length = l.toArray := Array.extract_eq_self_of_le (by simp)
  rw [e1, e2] at h3
  exact h3

theorem sortedIn_list {lt : α → α → Bool} {l : List α} {d : Array α} (hs : d.size = l.length) (h : SortedIn lt 0 l.length d) : d.toList.Pairwise fun x y => ¬(lt y x = true) := by
  rw [List.pairwise_iff_getElem]
  intro i j hi hj hij
  have hi' : i < d.size := by simpa using hi
  have hj' : j < d.size := by simpa using hj
  have := h i j (Nat.zero_le _) hij (by omega)
  rw [getElem!_pos d i hi', getElem!_pos d j hj'] at this
  simpa using this

theorem sort_back (hk : ∀ x, (enc x).length = k) {W : World} {base e blk cap : Nat} {l : List α} (h : W.ownsRow base e k (.slice (some ⟨blk, 0, none⟩) l.length cap) l.length (cellsK enc l)) (d : Array α) (n : Nat) (os : Array Obj) (hd : d.size = l.length) :
    (sortWorldK enc k W blk 0 n d os).ownsRow base e k (.slice (some ⟨blk, 0, none⟩) l.length cap) l.length (cellsK enc d.toList) ∧ W.grownBy (sortWorldK enc k W blk 0 n d os) (some blk) := by
  have hlt := (h.lt blk rfl).2
  have h1 := owns_put h n (flatK enc k d) (n' := l.length) (by rw [size_flatK, hd]; exact Nat.le_refl _) (by rw [size_flatK, hd]; exact Nat.le_refl _) (Nat.le_refl _)
  rw [List.take_of_length_le (by rw [Array.length_toList, size_flatK, hd]; exact Nat.le_refl _), flatK_list hk] at h1
  have hg := put_grown W n blk 0 (flatK enc k d)
  have hsz : (putRow id (Sort.ahead W n) blk 0 (flatK enc k d)).heap.size = W.heap.size := by rw [size_putRow]; rfl
  have hw : sortWorldK enc k W blk 0 n d os = grow (putRow id (Sort.ahead W n) blk 0 (flatK enc k d)) os := rfl
  rw [hw]
  refine ⟨ownsRow_same h1 fun g hg => heap_grow_old _ _ ?_, ⟨rfl, rfl, rfl, by rw [size_grow, hsz]; omega, fun i hi hne => ?_⟩⟩
  · have := h1.lt g hg; exact this.2
  · rw [heap_grow_old _ _ (by rw [hsz]; exact hi)]
    exact hg.block i hi hne
end

end Go.Proofs.YthookkmgmholcaaGreatDoor

/-
  DERIVED: THE SHELF's CONTRACTS AT THIS DUMP, IN PLAIN WORDS (tools/lay-plain.mjs out of 'YthookkmgmholcaaGreatDoorSh2.lean', which tools/lay-shelf.mjs wrote): THE SAME DECLARATIONS UNDER THE SAME NAMES: 'import', 'namespace', 'open', 'def', 'theorem' AND NOTHING ELSE: no command of the shelf's: FOR A HAND-IN. Each laying: the table of numbers ('.._ren') and one theorem, a field a fact of the dump's own or the kernel's comparison; each contract: ONE APPLICATION.
-/
namespace Go.Proofs
open Go.Shelf
def Tryz.sortTri_ren : Go.Shelf.Ren := ⟨fun | 6 => 99 | 15 => 118 | 14 => 131 | 28 => 161 | 29 => 162 | 20 => 170 | 21 => 171 | 22 => 172 | 23 => 173 | 24 => 174 | 25 => 175 | 26 => 176 | 27 => 177 | 46 => 209 | 47 => 199 | 48 => 200 | 49 => 210 | 50 => 211 | 57 => 241 | n => n, fun | 22 => 33 | 24 => 32 | 25 => 130 | 3 => 3 | 39 => 68 | 0 => 0 | 53 => 186 | 55 => 123 | 4 => 4 | 46 => 180 | 45 => 179 | 50 => 46 | 5 => 5 | 9 => 9 | 66 => 209 | 70 => 213 | 76 => 229 | 77 => 230 | n => n, fun | n => n⟩
theorem Tryz.sortTri : Go.Proofs.SlLaysF0.n6 Tryz.prog Tryz.sortTri_ren := {
  mixed := by kernel_rfl
  f6 := ⟨Tryz.f99.name, by decide, Tryz.func99.trans (congrArg some (by kernel_rfl))⟩
  f14 := ⟨Tryz.f131.name, by decide, Tryz.func131.trans (congrArg some (by kernel_rfl))⟩
  f15 := Tryz.func118.trans (congrArg some (by kernel_rfl))
  f20 := ⟨Tryz.f170.name, by decide, Tryz.func170.trans (congrArg some (by kernel_rfl))⟩
  f21 := ⟨Tryz.f171.name, by decide, Tryz.func171.trans (congrArg some (by kernel_rfl))⟩
  f22 := ⟨Tryz.f172.name, by decide, Tryz.func172.trans (congrArg some (by kernel_rfl))⟩
  f23 := ⟨Tryz.f173.name, by decide, Tryz.func173.trans (congrArg some (by kernel_rfl))⟩
  f24 := ⟨Tryz.f174.name, by decide, Tryz.func174.trans (congrArg some (by kernel_rfl))⟩
  f25 := ⟨Tryz.f175.name, by decide, Tryz.func175.trans (congrArg some (by kernel_rfl))⟩
  f26 := ⟨Tryz.f176.name, by decide, Tryz.func176.trans (congrArg some (by kernel_rfl))⟩
  f27 := ⟨Tryz.f177.name, by decide, Tryz.func177.trans (congrArg some (by kernel_rfl))⟩
  f28 := Tryz.func161.trans (congrArg some (by kernel_rfl))
  f29 := Tryz.func162.trans (congrArg some (by kernel_rfl))
  f46 := ⟨Tryz.f209.name, by decide, Tryz.func209.trans (congrArg some (by kernel_rfl))⟩
  f47 := Tryz.func199.trans (congrArg some (by kernel_rfl))
  f48 := Tryz.func200.trans (congrArg some (by kernel_rfl))
  f49 := ⟨Tryz.f210.name, by decide, Tryz.func210.trans (congrArg some (by kernel_rfl))⟩
  f50 := ⟨Tryz.f211.name, by decide, Tryz.func211.trans (congrArg some (by kernel_rfl))⟩
  f57 := ⟨Tryz.f241.name, by decide, Tryz.func241.trans (congrArg some (by kernel_rfl))⟩
  t0 := Tryz.underlying0
  a0 := Tryz.isAgg0
  z0 := Tryz.sizeOf0
  v0 := Tryz.zeroValue0
  t3 := Tryz.underlying3
  a3 := Tryz.isAgg3
  z3 := Tryz.sizeOf3
  v3 := Tryz.zeroValue3
  t4 := Tryz.underlying4
  a4 := Tryz.isAgg4
  z4 := Tryz.sizeOf4
  v4 := Tryz.zeroValue4
  t5 := Tryz.underlying5
  a5 := Tryz.isAgg5
  z5 := Tryz.sizeOf5
  v5 := Tryz.zeroValue5
  t9 := Tryz.underlying9
  a9 := Tryz.isAgg9
  z9 := Tryz.sizeOf9
  v9 := Tryz.zeroValue9
  t22 := Tryz.underlying33
  a22 := Tryz.isAgg33
  z22 := Tryz.sizeOf33
  v22 := Tryz.zeroValue33
  t25 := Tryz.underlying130
  a25 := Tryz.isAgg130
  z25 := Tryz.sizeOf130
  v25 := Tryz.zeroValue130
  t39 := Tryz.underlying68
  a39 := Tryz.isAgg68
  z39 := Tryz.sizeOf68
  v39 := Tryz.zeroValue68
  t45 := Tryz.underlying179
  a45 := Tryz.isAgg179
  z45 := Tryz.sizeOf179
  v45 := Tryz.zeroValue179
  t46 := Tryz.underlying180
  a46 := Tryz.isAgg180
  z46 := Tryz.sizeOf180
  v46 := Tryz.zeroValue180
  t50 := Tryz.underlying46
  a50 := Tryz.isAgg46
  z50 := Tryz.sizeOf46
  v50 := Tryz.zeroValue46
  t53 := Tryz.underlying186
  a53 := Tryz.isAgg186
  z53 := Tryz.sizeOf186
  v53 := Tryz.zeroValue186
  t55 := Tryz.underlying123
  a55 := Tryz.isAgg123
  z55 := Tryz.sizeOf123
  v55 := Tryz.zeroValue123
  t66 := Tryz.underlying209
  a66 := Tryz.isAgg209
  z66 := Tryz.sizeOf209
  v66 := Tryz.zeroValue209
  t70 := Tryz.underlying213
  a70 := Tryz.isAgg213
  z70 := Tryz.sizeOf213
  v70 := Tryz.zeroValue213
  t76 := Tryz.underlying229
  a76 := Tryz.isAgg229
  z76 := Tryz.sizeOf229
  v76 := Tryz.zeroValue229
  t77 := Tryz.underlying230
  a77 := Tryz.isAgg230
  z77 := Tryz.sizeOf230
  v77 := Tryz.zeroValue230 }
def Tryz.sortPair_ren : Go.Shelf.Ren := ⟨fun | 6 => 138 | 15 => 118 | 14 => 191 | 28 => 161 | 29 => 162 | 20 => 217 | 21 => 218 | 22 => 219 | 23 => 220 | 24 => 221 | 25 => 222 | 26 => 223 | 27 => 224 | 46 => 243 | 47 => 199 | 48 => 200 | 49 => 244 | 50 => 245 | 57 => 255 | n => n, fun | 22 => 50 | 24 => 54 | 25 => 166 | 3 => 3 | 39 => 68 | 0 => 0 | 53 => 186 | 55 => 123 | 4 => 4 | 46 => 180 | 45 => 179 | 50 => 46 | 5 => 5 | 9 => 9 | 66 => 209 | 70 => 213 | 76 => 229 | 77 => 230 | n => n, fun | n => n⟩
theorem Tryz.sortPair : Go.Proofs.SlLaysF0.n6 Tryz.prog Tryz.sortPair_ren := {
  mixed := by kernel_rfl
  f6 := ⟨Tryz.f138.name, by decide, Tryz.func138.trans (congrArg some (by kernel_rfl))⟩
  f14 := ⟨Tryz.f191.name, by decide, Tryz.func191.trans (congrArg some (by kernel_rfl))⟩
  f15 := Tryz.func118.trans (congrArg some (by kernel_rfl))
  f20 := ⟨Tryz.f217.name, by decide, Tryz.func217.trans (congrArg some (by kernel_rfl))⟩
  f21 := ⟨Tryz.f218.name, by decide, Tryz.func218.trans (congrArg some (by kernel_rfl))⟩
  f22 := ⟨Tryz.f219.name, by decide, Tryz.func219.trans (congrArg some (by kernel_rfl))⟩
  f23 := ⟨Tryz.f220.name, by decide, Tryz.func220.trans (congrArg some (by kernel_rfl))⟩
  f24 := ⟨Tryz.f221.name, by decide, Tryz.func221.trans (congrArg some (by kernel_rfl))⟩
  f25 := ⟨Tryz.f222.name, by decide, Tryz.func222.trans (congrArg some (by kernel_rfl))⟩
  f26 := ⟨Tryz.f223.name, by decide, Tryz.func223.trans (congrArg some (by kernel_rfl))⟩
  f27 := ⟨Tryz.f224.name, by decide, Tryz.func224.trans (congrArg some (by kernel_rfl))⟩
  f28 := Tryz.func161.trans (congrArg some (by kernel_rfl))
  f29 := Tryz.func162.trans (congrArg some (by kernel_rfl))
  f46 := ⟨Tryz.f243.name, by decide, Tryz.func243.trans (congrArg some (by kernel_rfl))⟩
  f47 := Tryz.func199.trans (congrArg some (by kernel_rfl))
  f48 := Tryz.func200.trans (congrArg some (by kernel_rfl))
  f49 := ⟨Tryz.f244.name, by decide, Tryz.func244.trans (congrArg some (by kernel_rfl))⟩
  f50 := ⟨Tryz.f245.name, by decide, Tryz.func245.trans (congrArg some (by kernel_rfl))⟩
  f57 := ⟨Tryz.f255.name, by decide, Tryz.func255.trans (congrArg some (by kernel_rfl))⟩
  t0 := Tryz.underlying0
  a0 := Tryz.isAgg0
  z0 := Tryz.sizeOf0
  v0 := Tryz.zeroValue0
  t3 := Tryz.underlying3
  a3 := Tryz.isAgg3
  z3 := Tryz.sizeOf3
  v3 := Tryz.zeroValue3
  t4 := Tryz.underlying4
  a4 := Tryz.isAgg4
  z4 := Tryz.sizeOf4
  v4 := Tryz.zeroValue4
  t5 := Tryz.underlying5
  a5 := Tryz.isAgg5
  z5 := Tryz.sizeOf5
  v5 := Tryz.zeroValue5
  t9 := Tryz.underlying9
  a9 := Tryz.isAgg9
  z9 := Tryz.sizeOf9
  v9 := Tryz.zeroValue9
  t22 := Tryz.underlying50
  a22 := Tryz.isAgg50
  z22 := Tryz.sizeOf50
  v22 := Tryz.zeroValue50
  t25 := Tryz.underlying166
  a25 := Tryz.isAgg166
  z25 := Tryz.sizeOf166
  v25 := Tryz.zeroValue166
  t39 := Tryz.underlying68
  a39 := Tryz.isAgg68
  z39 := Tryz.sizeOf68
  v39 := Tryz.zeroValue68
  t45 := Tryz.underlying179
  a45 := Tryz.isAgg179
  z45 := Tryz.sizeOf179
  v45 := Tryz.zeroValue179
  t46 := Tryz.underlying180
  a46 := Tryz.isAgg180
  z46 := Tryz.sizeOf180
  v46 := Tryz.zeroValue180
  t50 := Tryz.underlying46
  a50 := Tryz.isAgg46
  z50 := Tryz.sizeOf46
  v50 := Tryz.zeroValue46
  t53 := Tryz.underlying186
  a53 := Tryz.isAgg186
  z53 := Tryz.sizeOf186
  v53 := Tryz.zeroValue186
  t55 := Tryz.underlying123
  a55 := Tryz.isAgg123
  z55 := Tryz.sizeOf123
  v55 := Tryz.zeroValue123
  t66 := Tryz.underlying209
  a66 := Tryz.isAgg209
  z66 := Tryz.sizeOf209
  v66 := Tryz.zeroValue209
  t70 := Tryz.underlying213
  a70 := Tryz.isAgg213
  z70 := Tryz.sizeOf213
  v70 := Tryz.zeroValue213
  t76 := Tryz.underlying229
  a76 := Tryz.isAgg229
  z76 := Tryz.sizeOf229
  v76 := Tryz.zeroValue229
  t77 := Tryz.underlying230
  a77 := Tryz.isAgg230
  z77 := Tryz.sizeOf230
  v77 := Tryz.zeroValue230 }
def Tryz.sortSeg_ren : Go.Shelf.Ren := ⟨fun | 6 => 104 | 15 => 118 | 14 => 137 | 28 => 161 | 29 => 162 | 20 => 183 | 21 => 184 | 22 => 185 | 23 => 186 | 24 => 187 | 25 => 188 | 26 => 189 | 27 => 190 | 46 => 214 | 47 => 199 | 48 => 200 | 49 => 215 | 50 => 216 | 57 => 242 | n => n, fun | 22 => 40 | 24 => 107 | 25 => 136 | 3 => 3 | 39 => 68 | 0 => 0 | 53 => 186 | 55 => 123 | 4 => 4 | 46 => 180 | 45 => 179 | 50 => 46 | 5 => 5 | 9 => 9 | 66 => 209 | 70 => 213 | 76 => 229 | 77 => 230 | n => n, fun | n => n⟩
theorem Tryz.sortSeg : Go.Proofs.SlLaysF0.n6 Tryz.prog Tryz.sortSeg_ren := {
  mixed := by kernel_rfl
  f6 := ⟨Tryz.f104.name, by decide, Tryz.func104.trans (congrArg some (by kernel_rfl))⟩
  f14 := ⟨Tryz.f137.name, by decide, Tryz.func137.trans (congrArg some (by kernel_rfl))⟩
  f15 := Tryz.func118.trans (congrArg some (by kernel_rfl))
  f20 := ⟨Tryz.f183.name, by decide, Tryz.func183.trans (congrArg some (by kernel_rfl))⟩
  f21 := ⟨Tryz.f184.name, by decide, Tryz.func184.trans (congrArg some (by kernel_rfl))⟩
  f22 := ⟨Tryz.f185.name, by decide, Tryz.func185.trans (congrArg some (by kernel_rfl))⟩
  f23 := ⟨Tryz.f186.name, by decide, Tryz.func186.trans (congrArg some (by kernel_rfl))⟩
  f24 := ⟨Tryz.f187.name, by decide, Tryz.func187.trans (congrArg some (by kernel_rfl))⟩
  f25 := ⟨Tryz.f188.name, by decide, Tryz.func188.trans (congrArg some (by kernel_rfl))⟩
  f26 := ⟨Tryz.f189.name, by decide, Tryz.func189.trans (congrArg some (by kernel_rfl))⟩
  f27 := ⟨Tryz.f190.name, by decide, Tryz.func190.trans (congrArg some (by kernel_rfl))⟩
  f28 := Tryz.func161.trans (congrArg some (by kernel_rfl))
  f29 := Tryz.func162.trans (congrArg some (by kernel_rfl))
  f46 := ⟨Tryz.f214.name, by decide, Tryz.func214.trans (congrArg some (by kernel_rfl))⟩
  f47 := Tryz.func199.trans (congrArg some (by kernel_rfl))
  f48 := Tryz.func200.trans (congrArg some (by kernel_rfl))
  f49 := ⟨Tryz.f215.name, by decide, Tryz.func215.trans (congrArg some (by kernel_rfl))⟩
  f50 := ⟨Tryz.f216.name, by decide, Tryz.func216.trans (congrArg some (by kernel_rfl))⟩
  f57 := ⟨Tryz.f242.name, by decide, Tryz.func242.trans (congrArg some (by kernel_rfl))⟩
  t0 := Tryz.underlying0
  a0 := Tryz.isAgg0
  z0 := Tryz.sizeOf0
  v0 := Tryz.zeroValue0
  t3 := Tryz.underlying3
  a3 := Tryz.isAgg3
  z3 := Tryz.sizeOf3
  v3 := Tryz.zeroValue3
  t4 := Tryz.underlying4
  a4 := Tryz.isAgg4
  z4 := Tryz.sizeOf4
  v4 := Tryz.zeroValue4
  t5 := Tryz.underlying5
  a5 := Tryz.isAgg5
  z5 := Tryz.sizeOf5
  v5 := Tryz.zeroValue5
  t9 := Tryz.underlying9
  a9 := Tryz.isAgg9
  z9 := Tryz.sizeOf9
  v9 := Tryz.zeroValue9
  t22 := Tryz.underlying40
  a22 := Tryz.isAgg40
  z22 := Tryz.sizeOf40
  v22 := Tryz.zeroValue40
  t25 := Tryz.underlying136
  a25 := Tryz.isAgg136
  z25 := Tryz.sizeOf136
  v25 := Tryz.zeroValue136
  t39 := Tryz.underlying68
  a39 := Tryz.isAgg68
  z39 := Tryz.sizeOf68
  v39 := Tryz.zeroValue68
  t45 := Tryz.underlying179
  a45 := Tryz.isAgg179
  z45 := Tryz.sizeOf179
  v45 := Tryz.zeroValue179
  t46 := Tryz.underlying180
  a46 := Tryz.isAgg180
  z46 := Tryz.sizeOf180
  v46 := Tryz.zeroValue180
  t50 := Tryz.underlying46
  a50 := Tryz.isAgg46
  z50 := Tryz.sizeOf46
  v50 := Tryz.zeroValue46
  t53 := Tryz.underlying186
  a53 := Tryz.isAgg186
  z53 := Tryz.sizeOf186
  v53 := Tryz.zeroValue186
  t55 := Tryz.underlying123
  a55 := Tryz.isAgg123
  z55 := Tryz.sizeOf123
  v55 := Tryz.zeroValue123
  t66 := Tryz.underlying209
  a66 := Tryz.isAgg209
  z66 := Tryz.sizeOf209
  v66 := Tryz.zeroValue209
  t70 := Tryz.underlying213
  a70 := Tryz.isAgg213
  z70 := Tryz.sizeOf213
  v70 := Tryz.zeroValue213
  t76 := Tryz.underlying229
  a76 := Tryz.isAgg229
  z76 := Tryz.sizeOf229
  v76 := Tryz.zeroValue229
  t77 := Tryz.underlying230
  a77 := Tryz.isAgg230
  z77 := Tryz.sizeOf230
  v77 := Tryz.zeroValue230 }
end Go.Proofs

/- mesh.sorted at triangles. -/
namespace Go.Proofs.YthookkmgmholcaaGreatDoor
open Go.RowKit Go.Maps Go.WideMaps Go.Sort

def encT (x : Tri3) : List Value := [.int .i64 x.1, .int .i64 x.2.1, .int .i64 x.2.2]
theorem encT_len (x : Tri3) : (encT x).length = 3 := rfl
theorem encT_one (x : Tri3) : ∀ v ∈ encT x, v.oneCell' = true := by
  intro v hv
  simp [encT] at hv
  rcases hv with rfl | rfl | rfl <;> rfl

theorem compareInt_lt {x y : Int} : Lib.compareInt x y < 0 ↔ x < y := by
  unfold Lib.compareInt
  by_cases h1 : x < y
  · simp [h1]
  · by_cases h2 : x > y
    · simp [h1, h2]
    · simp [h1, h2]
theorem cmpT_lt (x y : Tri3) : cmpT x y < 0 ↔ ltT x y := by
  unfold cmpT ltT
  split
  · rw [compareInt_lt]; omega
  · split
    · rw [compareInt_lt]; omega
    · rw [compareInt_lt]; omega
theorem ltOf_cmpT (x y : Tri3) : ltOf cmpT x y = true ↔ ltT x y := by
  unfold ltOf
  rw [decide_eq_true_eq]
  exact cmpT_lt x y
theorem ltOf_cmpT' (x y : Tri3) : ltOf cmpT x y = false ↔ ¬ltT x y := by
  rw [← ltOf_cmpT]; simp
theorem swoT : SWO (ltOf cmpT) where
  irrefl x := (ltOf_cmpT' x x).2 (ltT_irr x)
  trans x y z h1 h2 := (ltOf_cmpT x z).2 (ltT_trans x y z ((ltOf_cmpT x y).1 h1) ((ltOf_cmpT y z).1 h2))
  ntrans x y z h1 h2 := by
    rw [ltOf_cmpT'] at *
    unfold ltT at *
    omega

theorem enters_triCmp : ∀ args w, (callFunc 100 args).run Tryz.prog w = .ok (.enter 100 args) w := enters_of Tryz.func100 (by kernel_rfl) rfl

theorem sortFuncTri {base : Nat} (l : List Tri3) (v : Value) (kb : Nat) (w : World) (h : w.ownsRow base 32 3 v l.length (cellsK encT l)) (hk : w.cell? ⟨kb, 0, none⟩ = some (.func (.func 68) #[] #[])) (hne : v.ownBlock ≠ some kb) (hl : l.length ≤ 4611686018427387900) :
    Calls Tryz.prog 99 #[v, .func (.func 100) #[] #[.pointer (some ⟨kb, 0, none⟩)]] w fun r w' =>
      r = .returned (.tuple #[]) ∧ ∃ l' : List Tri3, l'.Perm l ∧ l'.Pairwise (fun x y => ¬ltT y x) ∧ w'.ownsRow base 32 3 v l.length (cellsK encT l') ∧ w.grownBy w' v.ownBlock := by
  rcases h.2 with ⟨rfl, h0⟩ | ⟨g, cap, cur, rfl, hb, hh, hn, hm, hs, ht⟩
  · have hnil : l = [] := List.length_eq_zero_iff.1 h0
    subst hnil
    have hc := AnyF.slices_SortFunc_none (P := Tryz.prog) Tryz.sortTri none 0 (.func (.func 100) #[] #[.pointer (some ⟨kb, 0, none⟩)]) w
    change Calls Tryz.prog 99 _ _ _ at hc
    refine hc.mono ?_
    rintro r w' ⟨rfl, rfl⟩
    exact ⟨rfl, [], List.Perm.refl _, List.Pairwise.nil, h, ⟨rfl, rfl, rfl, Nat.le_refl _, fun _ _ _ => rfl⟩⟩
  · have hkb : kb ≠ g := fun e => hne (by rw [e]; rfl)
    have hkl := World.block_lt_of_cell? _ _ hk
    have hgl : g < w.heap.size := (Array.getElem?_eq_some_iff.1 hh).1
    have hcmp : CmpLays Tryz.prog 100 #[.pointer (some ⟨kb, 0, none⟩)] encT 3 cmpT g 0 l.toArray.size w := by
      intro m os dk _ x y
      refine (triCmp_walk kb x y _ ?_).mono ?_
      · unfold sortWorldK
        rw [cell?_grow _ _ _ (by show kb < (putRowK _ _ _ _ _ _).heap.size; rw [size_putRowK]; exact hkl), cell?_putRowK_other _ _ _ _ _ _ _ hkb]
        exact hk
      · rintro r w' ⟨he, q, os', hw⟩
        exact ⟨he, q, os', hw⟩
    have hcon := AnyQ.slices_SortFunc (P := Tryz.prog) Tryz.sortTri 3 Tryz.isAgg32 Tryz.sizeOf32 encT encT_len encT_one cmpT swoT 100 #[.pointer (some ⟨kb, 0, none⟩)] g 0 cap l.toArray w enters_triCmp hcmp (owns_holdsK encT_len h) hgl (by rw [List.size_toArray]; omega)
    change Calls Tryz.prog 99 _ _ _ at hcon
    rw [List.size_toArray] at hcon
    refine hcon.mono ?_
    rintro r w' ⟨rfl, d, n, os, hp, hsd, rfl⟩
    have hds : d.size = l.length := by have := hp.1; simpa using this
    obtain ⟨o1, o2⟩ := sort_back encT_len h d n os hds
    refine ⟨rfl, d.toList, permIn_list hp, ?_, o1, o2⟩
    refine List.Pairwise.imp ?_ (sortedIn_list hds hsd)
    intro x y hxy
    exact fun e => hxy ((ltOf_cmpT y x).2 e)

set_option maxRecDepth 100000 in
set_option maxHeartbeats 1000000 in
theorem sortedTri_walk {base : Nat} (l : List Tri3) (v : Value) (w : World) (h : w.ownsRow base 32 3 v l.length (cellsK encT l)) (hl : l.length ≤ 4611686018427387900) :
    Calls Tryz.prog 67 #[v, .func (.func 68) #[] #[]] w fun r w' =>
      r = .returned v ∧ ∃ l' : List Tri3, l'.Perm l ∧ l'.Pairwise (fun x y => ¬ltT y x) ∧ w'.ownsRow base 32 3 v l.length (cellsK encT l') ∧ w.grownBy w' v.ownBlock := by
  have hc := sortFuncTri l v w.heap.size (w.alloc (.cells #[.func (.func 68) #[] #[]] 105)) (h.alloc _) (by rw [World.cell?_alloc_at _ _ _ _ rfl]; rfl) (fun e => by have := (h.lt _ e).2; omega) hl
  have HC := Lib.hid hc
  have HS : Hid (∀ w', (w.alloc (.cells #[.func (.func 68) #[] #[]] 105)).grownBy w' v.ownBlock → w.grownBy w' v.ownBlock) := fun w' hg =>
    ⟨hg.os, hg.tape, hg.output, Nat.le_trans (by simp) hg.size, fun i hi hne => (hg.block i (by simp; omega) hne).trans (((Below.refl _ w).alloc (Nat.le_refl _) _).block i hi)⟩
  clear hc h
  go_enter Tryz.func67, Tryz.ntmps67
  go_wp2_with (go_at_call 99; refine HC.out.mono ?_; rintro r w1 ⟨rfl, l', h1, h2, h3, h4⟩)
  go_ret
  exact ⟨rfl, l', h1, h2, h3, HS.out _ h4⟩

end Go.Proofs.YthookkmgmholcaaGreatDoor

/- Ranging over the edges: what has come, as a list. -/
namespace Go.Proofs.YthookkmgmholcaaGreatDoor
open Go.RowKit Go.Maps Go.WideMaps

/-- what a range over edges has brought so far -/
def GotG {α : Type} (f : Int → Int → Option Int) (g : Int × Int → Option α) (lf : Value → Bool) (L : List α) : Prop :=
  L.Nodup ∧ ∀ y, y ∈ L ↔ ∃ x : Int × Int, f x.1 x.2 ≠ none ∧ g x = some y ∧ lf (kE x.1 x.2) = false

section
variable {α : Type} {f : Int → Int → Option Int} {g : Int × Int → Option α} {lf lf' : Value → Bool} {L : List α}

theorem GotG.start (h : ∀ a b, f a b ≠ none → lf (kE a b) = true) : GotG f g lf [] := by
  refine ⟨List.Pairwise.nil, fun y => ⟨fun h => (nomatch h), ?_⟩⟩
  rintro ⟨x, h1, _, h2⟩
  rw [h _ _ h1] at h2; cases h2

theorem GotG.skip (h : GotG f g lf L) {x : Int × Int} (hx : g x = none) (h2 : ∀ y, y ≠ kE x.1 x.2 → lf' y = lf y) : GotG f g lf' L := by
  refine ⟨h.1, fun y => ?_⟩
  rw [h.2 y]
  constructor
  · rintro ⟨z, a, b, c⟩
    have hz : kE z.1 z.2 ≠ kE x.1 x.2 := fun e => by
      rw [kE_inj] at e
      have : z = x := Prod.ext e.1 e.2
      rw [this, hx] at b; cases b
    exact ⟨z, a, b, by rw [h2 _ hz]; exact c⟩
  · rintro ⟨z, a, b, c⟩
    have hz : kE z.1 z.2 ≠ kE x.1 x.2 := fun e => by
      rw [kE_inj] at e
      have : z = x := Prod.ext e.1 e.2
      rw [this, hx] at b; cases b
    exact ⟨z, a, b, by rw [← h2 _ hz]; exact c⟩

theorem GotG.add (h : GotG f g lf L) (inj : ∀ x x' y, f x.1 x.2 ≠ none → f x'.1 x'.2 ≠ none → g x = some y → g x' = some y → x = x') {x : Int × Int} {y : α} (hf : f x.1 x.2 ≠ none) (hl : lf (kE x.1 x.2) = true) (hx : g x = some y)
    (h1 : lf' (kE x.1 x.2) = false) (h2 : ∀ y, y ≠ kE x.1 x.2 → lf' y = lf y) : GotG f g lf' (L ++ [y]) := by
  have hy : y ∉ L := fun hm => by
    obtain ⟨z, a, b, c⟩ := (h.2 y).1 hm
    have := inj z x y a hf b hx
    subst this
    rw [hl] at c; cases c
  refine ⟨?_, fun z => ?_⟩
  · unfold List.Nodup
    rw [List.pairwise_append]
    refine ⟨h.1, List.pairwise_singleton _ _, fun a ha b hb => ?_⟩
    rw [List.mem_singleton] at hb
    subst hb
    exact fun e => hy (e ▸ ha)
  · rw [List.mem_append, List.mem_singleton, h.2 z]
    constructor
    · rintro (⟨u, a, b, c⟩ | rfl)
      · have hu : kE u.1 u.2 ≠ kE x.1 x.2 := fun e => by
          rw [e, hl] at c; cases c
        exact ⟨u, a, b, by rw [h2 _ hu]; exact c⟩
      · exact ⟨x, hf, hx, h1⟩
    · rintro ⟨u, a, b, c⟩
      by_cases hu : kE u.1 u.2 = kE x.1 x.2
      · rw [kE_inj] at hu
        have : u = x := Prod.ext hu.1 hu.2
        subst this
        rw [hx] at b; cases b
        exact .inr rfl
      · exact .inl ⟨u, a, b, by rw [← h2 _ hu]; exact c⟩

theorem GotG.done (h : GotG f g lf L) (hd : ∀ k, lf k = false) (y : α) : y ∈ L ↔ ∃ x : Int × Int, f x.1 x.2 ≠ none ∧ g x = some y := by
  rw [h.2 y]
  constructor
  · rintro ⟨x, a, b, _⟩; exact ⟨x, a, b⟩
  · rintro ⟨x, a, b⟩; exact ⟨x, a, b, hd _⟩

/-- a list whose members are told apart is no longer than one that holds them -/
theorem nodup_len [DecidableEq α] : ∀ (L S : List α), L.Nodup → (∀ y, y ∈ L → y ∈ S) → L.length ≤ S.length
  | [], _, _, _ => Nat.zero_le _
  | x :: r, S, hn, hs => by
    have hn' := List.pairwise_cons.1 hn
    have hx := hs x (List.mem_cons_self ..)
    have ih := nodup_len r (S.erase x) hn'.2 fun y hy => (List.mem_erase_of_ne (fun e => hn'.1 y hy e.symm)).2 (hs y (List.mem_cons_of_mem _ hy))
    have := List.length_erase_of_mem hx
    have hp : 0 < S.length := List.length_pos_of_mem hx
    rw [List.length_cons]; omega
end

theorem idxL_len (n : Nat) : (idxL n).length = n * n := by
  unfold idxL
  rw [List.length_flatMap]
  simp only [List.length_map, List.length_range, List.map_const', List.sum_replicate_nat]

theorem edgeV_val {f : Int → Int → Option Int} {k v : Value} (h : edgeV f k = some v) : ∃ c, v = vI c := by
  obtain ⟨x, rfl⟩ := edgeV_ne (f := f) (v := k) (by rw [h]; simp)
  rw [edgeV_at] at h
  cases e : f x.1 x.2 with
  | none => rw [e] at h; cases h
  | some c => rw [e] at h; cases h; exact ⟨c, rfl⟩

theorem edgeV_some {f : Int → Int → Option Int} {a b c : Int} (h : edgeV f (kE a b) = some (vI c)) : f a b = some c := by
  rw [edgeV_at] at h
  cases e : f a b with
  | none => rw [e] at h; cases h
  | some d => rw [e] at h; simp [vI] at h; rw [h]

/-- a block that is made holds what it is made with -/
theorem cells_new (w : World) (cs : List Value) (t : TypeId) : ∀ j u, cs[j]? = some u → (w.alloc (.cells cs.toArray t)).cell? ((⟨w.heap.size, 0, none⟩ : Addr).add j) = some u := by
  intro j u hu
  rw [Addr.add_lit, World.cell?_alloc_at _ _ _ _ rfl]
  simpa using hu

/-! ### the three lists -/
def triG (ap : Int → Int → Option Int) (x : Int × Int) : Option Tri3 := if leadB ap x = true then some (triOf ap x) else none
def bordG (ap : Int → Int → Option Int) (x : Int × Int) : Option (Int × Int) := if inB ap (sw x) = true then none else some x
def edgeG (ap : Int → Int → Option Int) (x : Int × Int) : Option (Int × Int) := if x.1 < x.2 ∨ inB ap (sw x) = false then some (minI x.1 x.2, maxI x.1 x.2) else none

theorem inB_iff {ap : Int → Int → Option Int} {x : Int × Int} : inB ap x = true ↔ ap x.1 x.2 ≠ none := by
  unfold inB; cases ap x.1 x.2 <;> simp

theorem triG_mem {ap : Int → Int → Option Int} {n : Nat} (hw : Within ap n) (y : Tri3) : (∃ x : Int × Int, ap x.1 x.2 ≠ none ∧ triG ap x = some y) ↔ y ∈ trisL ap n := by
  unfold trisL
  rw [List.mem_map]
  constructor
  · rintro ⟨x, h1, h2⟩
    unfold triG at h2
    split at h2
    · rename_i hl
      cases h2
      exact ⟨x, List.mem_filter.2 ⟨mem_idxL.2 (hw _ _ h1), hl⟩, rfl⟩
    · cases h2
  · rintro ⟨x, h1, rfl⟩
    have h2 := List.mem_filter.1 h1
    exact ⟨x, inB_iff.1 (lead_in h2.2), by unfold triG; rw [if_pos h2.2]⟩
theorem bordG_mem {ap : Int → Int → Option Int} {n : Nat} (hw : Within ap n) (y : Int × Int) : (∃ x : Int × Int, ap x.1 x.2 ≠ none ∧ bordG ap x = some y) ↔ y ∈ bordL ap n := by
  rw [mem_bordL hw]
  unfold bordB
  constructor
  · rintro ⟨x, h1, h2⟩
    unfold bordG at h2
    split at h2
    · cases h2
    · rename_i hl
      cases h2
      simp only [Bool.and_eq_true, Bool.not_eq_true']
      refine ⟨inB_iff.2 h1, ?_⟩
      cases e : inB ap (y.2, y.1)
      · rfl
      · exact absurd e hl
  · intro h
    simp only [Bool.and_eq_true, Bool.not_eq_true'] at h
    refine ⟨y, inB_iff.1 h.1, ?_⟩
    unfold bordG
    rw [if_neg]
    show ¬inB ap (y.2, y.1) = true
    rw [h.2]; simp
theorem edgeG_mem {ap : Int → Int → Option Int} {n : Nat} (hw : Within ap n) (hr : Rot ap) (y : Int × Int) : (∃ x : Int × Int, ap x.1 x.2 ≠ none ∧ edgeG ap x = some y) ↔ y ∈ edgeL ap n := by
  rw [mem_edgeL hw]
  unfold edgeB
  have ne : ∀ a b, ap a b ≠ none → a ≠ b := fun a b h => by
    obtain ⟨c, hc⟩ := Option.ne_none_iff_exists'.1 h
    exact (hr.ne _ _ _ hc).1
  constructor
  · rintro ⟨x, h1, h2⟩
    have hne := ne _ _ h1
    unfold edgeG at h2
    split at h2
    · rename_i hl
      cases h2
      unfold minI maxI
      by_cases hq : x.1 ≤ x.2
      · rw [if_pos hq, if_pos hq]
        simp only [Bool.and_eq_true, Bool.or_eq_true, decide_eq_true_eq]
        exact ⟨by omega, .inl (inB_iff.2 h1)⟩
      · rw [if_neg hq, if_neg hq]
        simp only [Bool.and_eq_true, Bool.or_eq_true, decide_eq_true_eq]
        exact ⟨by omega, .inr (inB_iff.2 h1)⟩
    · cases h2
  · intro h
    simp only [Bool.and_eq_true, Bool.or_eq_true, decide_eq_true_eq] at h
    by_cases hi : inB ap y = true
    · refine ⟨y, inB_iff.1 hi, ?_⟩
      unfold edgeG minI maxI
      rw [if_pos (.inl h.1), if_pos (by omega), if_pos (by omega)]
    · have h2 := h.2.resolve_left hi
      refine ⟨sw y, inB_iff.1 h2, ?_⟩
      unfold edgeG minI maxI sw
      rw [if_pos (.inr (by simpa using hi)), if_neg (by dsimp only; omega), if_neg (by dsimp only; omega)]

theorem triG_inj {ap : Int → Int → Option Int} (x x' : Int × Int) (y : Tri3) (_ : ap x.1 x.2 ≠ none) (_ : ap x'.1 x'.2 ≠ none) (h1 : triG ap x = some y) (h2 : triG ap x' = some y) : x = x' := by
  unfold triG at h1 h2
  split at h1
  · split at h2
    · cases h1
      simp only [Option.some.injEq, triOf, Prod.mk.injEq] at h2
      exact Prod.ext h2.1.symm h2.2.1.symm
    · cases h2
  · cases h1
theorem bordG_inj {ap : Int → Int → Option Int} (x x' : Int × Int) (y : Int × Int) (_ : ap x.1 x.2 ≠ none) (_ : ap x'.1 x'.2 ≠ none) (h1 : bordG ap x = some y) (h2 : bordG ap x' = some y) : x = x' := by
  unfold bordG at h1 h2
  split at h1
  · cases h1
  · split at h2
    · cases h2
    · cases h1; cases h2; rfl
theorem edgeG_inj {ap : Int → Int → Option Int} (x x' : Int × Int) (y : Int × Int) (f1 : ap x.1 x.2 ≠ none) (f2 : ap x'.1 x'.2 ≠ none) (h1 : edgeG ap x = some y) (h2 : edgeG ap x' = some y) : x = x' := by
  unfold edgeG at h1 h2
  split at h1
  · rename_i k1
    split at h2
    · rename_i k2
      cases h1
      simp only [Option.some.injEq, Prod.mk.injEq] at h2
      obtain ⟨a, b⟩ := x; obtain ⟨c, d⟩ := x'
      unfold minI maxI at h2
      dsimp only at h2 k1 k2 f1 f2
      by_cases e : a = c ∧ b = d
      · exact Prod.ext e.1 e.2
      · exfalso
        have e2 : a = d ∧ b = c := by
          obtain ⟨h3, h4⟩ := h2
          split at h3 <;> split at h3 <;> simp_all <;> omega
        obtain ⟨rfl, rfl⟩ := e2
        have g1 : inB ap (sw (a, b)) = true := inB_iff.2 f2
        have g2 : inB ap (sw (b, a)) = true := inB_iff.2 f1
        rw [g1] at k1; rw [g2] at k2
        simp at k1 k2
        omega
    · cases h2
  · cases h1

end Go.Proofs.YthookkmgmholcaaGreatDoor

/- (*Mesh).Tris. -/
namespace Go.Proofs.YthookkmgmholcaaGreatDoor
open Go.RowKit Go.Maps Go.WideMaps

theorem infoTri : (Tryz.prog.info? 32).map (fun i => (i.zero, i.size, i.bytes)) = some (some (.agg #[.int .i64 0, .int .i64 0, .int .i64 0]), 3, 24) := by kernel_rfl

theorem addr_add0 (n j : Nat) : ((⟨n, 0, none⟩ : Addr).add j) = ⟨n, j, none⟩ := by rw [Addr.add_lit, Nat.zero_add]

/-- what the next round of a range over edges stands on -/
theorem range_round {k e : Nat} {w wr w1 W w2 : World} {ba r n : Nat} {f : Value → Option Value} {lf : Value → Bool} {cnt base : Nat} {v : Value} {xs : List Value} {m : Nat}
    (hr : w.heap.size = r) (hba : ba < w.heap.size) (hb : w.heap.size < base) (hbw : Below w.heap.size w wr) (hg1 : wr.grownBy w1 (some r)) (hrg1 : FRange Tryz.prog w1 94 ba r n f lf cnt) (hb1 : Below w1.heap.size w1 W)
    (hv : w1.ownsRow base e k v m xs) (hg2 : W.grownBy w2 v.ownBlock) : FRange Tryz.prog w2 94 ba r n f lf cnt ∧ Below w.heap.size w w2 := by
  have hlt := hv.lt
  have n1 : some ba ≠ v.ownBlock := fun e => by have := (hlt _ e.symm).1; omega
  have n2 : some r ≠ v.ownBlock := fun e => by have := (hlt _ e.symm).1; omega
  have g0 : w1.grownBy W none := ⟨hb1.os, hb1.tape, hb1.output, hb1.size, fun i hi _ => hb1.block i hi⟩
  have s0 := hbw.size
  have s1 := hg1.size
  have s2 := hb1.size
  refine ⟨(hrg1.kept g0 (by simp) (by simp)).kept hg2 n1 n2, ?_⟩
  refine Below.grown ?_ hg2 (by omega) (fun j hj => by have := (hlt _ hj).1; omega)
  exact (hbw.grown hg1 s0 (fun j hj => by cases hj; omega)).trans (hb1.mono (by omega))

theorem tris_short {ap : Int → Int → Option Int} {n : Nat} {L : List Tri3} (hl : n ≤ 1048576) (hn : L.Nodup) (hm : ∀ y, y ∈ L ↔ y ∈ trisL ap n) : L.length ≤ 4611686018427387900 := by
  have h1 := nodup_len L _ hn fun y hy => (hm y).1 hy
  have h2 : (trisL ap n).length ≤ n * n := by
    unfold trisL
    rw [List.length_map]
    exact Nat.le_trans (List.length_filter_le _ _) (Nat.le_of_eq (idxL_len n))
  have h3 : n * n ≤ 1048576 * 1048576 := Nat.mul_le_mul hl hl
  omega

theorem tri_len {ap : Int → Int → Option Int} {n : Nat} {lf : Value → Bool} {L : List Tri3} (hl : n ≤ 1048576) (hw : Within ap n) (h : GotG ap (triG ap) lf L) : L.length ≤ 1099511627776 := by
  have h1 := nodup_len L (trisL ap n) h.1 fun y hy => by
    obtain ⟨x, a, b, _⟩ := (h.2 y).1 hy
    exact (triG_mem hw y).1 ⟨x, a, b⟩
  have h2 : (trisL ap n).length ≤ n * n := by
    unfold trisL
    rw [List.length_map]
    exact Nat.le_trans (List.length_filter_le _ _) (Nat.le_of_eq (idxL_len n))
  have h3 : n * n ≤ 1048576 * 1048576 := Nat.mul_le_mul hl hl
  omega

set_option maxRecDepth 100000 in
set_option maxHeartbeats 2000000 in
theorem tris_walk {w : World} {mb n : Nat} {M : MeshM} {F : Nat → Prop} (h : MeshAt w mb n M F) (hw : Within M.ap M.P.length) (hl : M.P.length ≤ 1048576) :
    Calls Tryz.prog 23 #[.pointer (some ⟨mb, 0, none⟩)] w fun r w' => ∃ v, r = .returned v ∧ w'.ownsRow (w.heap.size + 1) 32 3 v (trisL M.ap M.P.length).length (cellsK encT (trisL M.ap M.P.length)) ∧ Below w.heap.size w w' := by
  obtain ⟨ba, bs, bf, pv, sv, h⟩ := h
  have c1 := h.c1
  have HF := Lib.hid h.apm
  have HBA := Lib.hid (h.flt ba h.fba)
  have HW := Lib.hid hw
  have HL := Lib.hid hl
  clear h hw hl
  obtain ⟨i0, hi, hz0, hz1, hz2⟩ := info_parts infoTri
  go_enter Tryz.func23, Tryz.ntmps23
  go_wp2_with (at_range; refine wp_range _ rfl _ 90 rfl 94 3 edgeLaw Tryz.underlying90 ba n _ rfl HF.out ?_; intro w0 hrg0 hg0 hs0)
  go_frame
  have HR0 := Lib.hid hrg0
  have HG0 := Lib.hid hg0
  have HS0 := Lib.hid hs0
  clear hrg0 hg0 hs0
  go_loopw [3] (fun s3 wr => ∃ (L : List Tri3) (lf : Value → Bool) (cnt : Nat), Hid (FRange Tryz.prog wr 94 ba w.heap.size n (edgeV M.ap) lf cnt) ∧ Hid (wr.ownsRow (w.heap.size + 1) 32 3 s3 L.length (cellsK encT L)) ∧ Hid (GotG M.ap (triG M.ap) lf L) ∧ Hid (Below w.heap.size w wr)) (fun _ wr => wr.rangeLeft ba w.heap.size)
  case atStart =>
    refine ⟨[], _, _, HR0.out, World.ownsRow_nil _ _ _ _, GotG.start (fun a b hab => ?_), ?_⟩
    · rw [edgeV_isSome]; exact Option.isSome_iff_ne_none.2 hab
    · exact (Below.refl _ w).grown HG0.out (Nat.le_refl _) (fun j hj => by cases hj)
  case round =>
    obtain ⟨L, lf, cnt, HR, HO, HGO, HB⟩ := hrel
    go_wp2_with (first | (at_next; refine wp_next _ rfl _ rfl 94 edgeLaw (fun x : Int × Int => kE x.1 x.2) vI ba w.heap.size n (edgeV M.ap) (fun key h => edgeV_ne h) (fun key v h => edgeV_val h) lf cnt rfl HR.out ?_ ?_) | go_in)
    · intro hd
      have HM : Hid (∀ y, y ∈ L ↔ y ∈ trisL M.ap M.P.length) := fun y => (HGO.out.done hd y).trans (triG_mem HW.out y)
      have HND := Lib.hid HGO.out.1
      clear hd
      have HSO := Lib.hid (sortedTri_walk L u3 wr HO.out (tris_short HL.out HND.out HM.out))
      go_wp2_with (go_at_call 67; refine HSO.out.mono ?_; rintro r w2 ⟨rfl, l', h1, h2, h3, h4⟩)
      go_ret
      have e : l' = trisL M.ap M.P.length := pw_unique ltT_irr ltT_trans _ _ (pw_strict ltT_tot l' (h1.nodup_iff.2 HND.out) h2) (trisL_sorted _ _) fun y => h1.mem_iff.trans (HM.out y)
      have el : L.length = (trisL M.ap M.P.length).length := by rw [← e, h1.length_eq]
      refine ⟨_, rfl, ?_, HB.out.grown h4 HB.out.size (fun j hj => by have := (HO.out.lt _ hj).1; omega)⟩
      rw [← el, ← e]
      exact h3
    · intro a b c w1 cnt1 lf1 hlx hfx hl1 hl2 hrg1 hlt1 hg1 hs1 hen
      have HX1 := Lib.hid (edgeV_some hfx)
      have HRG := Lib.hid hrg1
      have HG1 := Lib.hid hg1
      have HLT : Hid (w1.rangeLeft ba w.heap.size < wr.rangeLeft ba w.heap.size) := by unfold Hid; rw [hrg1.left_eq, HR.out.left_eq]; exact hlt1
      have HO1 : Hid (w1.ownsRow (w.heap.size + 1) 32 3 u3 L.length (cellsK encT L)) := HO.out.kept HG1.out (by
        cases hv : u3.ownBlock with
        | none => exact .inl rfl
        | some g => right; intro e; cases e; have := (HO.out.lt _ hv).1; omega)
      have HLX := Lib.hid hlx
      have HL1 := Lib.hid hl1
      have HL2 := Lib.hid hl2
      clear hlx hfx hl1 hl2 hrg1 hlt1 hg1 hs1
      simp only [kE, vI] at hen
      have HLEN := Lib.hid (tri_len HL.out HW.out HGO.out)
      have HRK : Hid (FRange Tryz.prog (w1.alloc (.cells #[.int .i64 a, .int .i64 b] 94)) 94 ba w.heap.size n (edgeV M.ap) lf1 cnt1) := HRG.out.kept (World.grownBy_alloc _ _ none) (by simp) (by simp)
      have HBK : Hid (Below w.heap.size w (w1.alloc (.cells #[.int .i64 a, .int .i64 b] 94))) :=
        (HB.out.grown HG1.out HB.out.size (fun j hj => by cases hj; omega)).alloc (by have := HB.out.size; have := HG1.out.size; omega) _
      by_cases q1 : a < b
      · by_cases q2 : a < c
        · have HGA : Hid (GotG M.ap (triG M.ap) lf1 (L ++ [(a, b, c)])) := HGO.out.add triG_inj (x := (a, b)) (by dsimp only; rw [HX1.out]; simp) HLX.out (by unfold triG leadB triOf; dsimp only; rw [HX1.out]; simp [q1, q2]) HL1.out HL2.out
          go_wp2_with (first | (at_builtin; refine wpList_append_own _ rfl _ _ 33 rfl (w.heap.size + 1) 32 i0 (.agg #[.int .i64 0, .int .i64 0, .int .i64 0]) 3 24 Tryz.underlying33 hi hz0 hz1 hz2 rfl (by decide) u3 L.length (cellsK encT L) rfl ((HO1.out.alloc _).alloc _) ⟨w1.heap.size + 1, 0, none⟩ 1 1 (encT (a, b, c)) rfl ?qc1 ?qc2 ?qc3 ?qc4 ?qc5 ?qc6 ?_) | go_in)
          case qc1 => rfl
          case qc2 =>
            intro j u hj
            have := cells_new (w1.alloc (.cells #[.int .i64 a, .int .i64 b] 94)) (encT (a, b, c)) 32 j u hj
            simpa [encT] using this
          case qc3 => exact encT_one _
          case qc4 => have := HLEN.out; unfold maxLen; omega
          case qc5 => have := HLEN.out; omega
          case qc6 => have := HB.out.size; have := HG1.out.size; have := (HO1.out); simp; omega
          intro v' w2 hown hgrow hnil
          obtain ⟨f1, f2⟩ := range_round rfl HBA.out (Nat.lt_succ_self _) HB.out HG1.out HRG.out (((Below.refl _ w1).alloc (Nat.le_refl _) _).alloc (by simp) _) HO1.out hgrow
          have HF1 := Lib.hid f1
          have HF2 := Lib.hid f2
          have HOW : Hid (w2.ownsRow (w.heap.size + 1) 32 3 v' (L ++ [(a, b, c)]).length (cellsK encT (L ++ [(a, b, c)]))) := by
            unfold Hid; rw [cellsK_append, cellsK_one, List.length_append]; exact hown
          clear f1 f2 hown hgrow hnil
          go_wp2
          go_roundw
          case rel => exact ⟨L ++ [(a, b, c)], lf1, cnt1, HF1.out, HOW.out, HGA, HF2.out⟩
          case measure => rw [HF1.out.left_eq, ← HRG.out.left_eq]; exact HLT.out
        · -- not led by the least
          have HGA : Hid (GotG M.ap (triG M.ap) lf1 L) := HGO.out.skip (x := (a, b)) (by unfold triG leadB; dsimp only; rw [HX1.out]; simp [q1, q2]) HL2.out
          go_wp2
          go_roundw
          case rel => exact ⟨L, lf1, cnt1, HRK.out, HO1.out.alloc _, HGA, HBK.out⟩
          case measure => rw [HRK.out.left_eq, ← HRG.out.left_eq]; exact HLT.out
      · -- not led by the least
        have HGA : Hid (GotG M.ap (triG M.ap) lf1 L) := HGO.out.skip (x := (a, b)) (by unfold triG leadB; dsimp only; rw [HX1.out]; simp [q1]) HL2.out
        go_wp2
        go_roundw
        case rel => exact ⟨L, lf1, cnt1, HRK.out, HO1.out.alloc _, HGA, HBK.out⟩
        case measure => rw [HRK.out.left_eq, ← HRG.out.left_eq]; exact HLT.out

end Go.Proofs.YthookkmgmholcaaGreatDoor
