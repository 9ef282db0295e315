/- Part of the proof. No conditions. -/
import Derived.Test.YtbagikgpgdlkcaaGreatDoorZA
import Derived.Shelf.SlSortCmp.WholeK
set_option linter.all false
set_option maxHeartbeats 8000000
set_option maxRecDepth 100000
namespace Go.Proofs.YtbagikgpgdlkcaaGreatDoor
open Go.RowKit Go.Maps Go.WideMaps Go.Sort
section
variable {α : Type} {enc : α → List Value} {k : Nat}
def cellsK (enc : α → List Value) (l : List α) : List Value := l.flatMap enc
theorem cellsK_len (hk : ∀ x,(enc x).length = k) (l : List α) : (cellsK enc l).length = l.length * k := by
 induction l with
 | nil => simp [cellsK]
 | cons x r ih =>
  unfold cellsK at *
  rw [List.flatMap_cons,List.length_append,ih,hk,List.length_cons,Nat.add_mul]; omega
theorem cellsK_append (l r : List α) : cellsK enc (l ++ r) = cellsK enc l ++ cellsK enc r := by unfold cellsK; rw [List.flatMap_append]
theorem cellsK_one (x : α) : cellsK enc [x] = enc x := by unfold cellsK; simp
theorem cellsK_at (hk : ∀ x,(enc x).length = k) : ∀ (l : List α) (i : Nat) (hi : i < l.length) (j : Nat),j < k → (cellsK enc l)[i * k + j]? = (enc l[i])[j]?
 | [],i,hi,_,_ => absurd hi (by simp)
 | x :: r,0,_,j,hj => by
  unfold cellsK
  rw [List.flatMap_cons,List.getElem?_append_left (by rw [hk]; omega)]
  simp
 | x :: r,i + 1,hi,j,hj => by
  have ih := cellsK_at hk r i (by simpa using hi) j hj
  unfold cellsK at *
  rw [List.flatMap_cons,List.getElem?_append_right (by rw [hk,Nat.add_mul]; omega),hk]
  rw [show (i + 1) * k + j - k = i * k + j by rw [Nat.add_mul]; omega,ih]
  simp
end
section
variable {α : Type} [Inhabited α] {enc : α → List Value} {k : Nat}
theorem flatK_list (hk : ∀ x,(enc x).length = k) (d : Array α) : (flatK enc k d).toList = cellsK enc d.toList := by
 apply List.ext_getElem?
 intro t
 by_cases ht : t < d.size * k
 ·have hkp : 0 < k := by
   rcases Nat.eq_zero_or_pos k with h | h
   ·subst h; simp at ht
   ·exact h
  have hq : t / k < d.size := Nat.div_lt_of_lt_mul (by rw [Nat.mul_comm]; exact ht)
  have e : t = t / k * k + t % k := by have := Nat.div_add_mod t k; rw [Nat.mul_comm] at this; omega
  have h1 : (flatK enc k d).toList[t]? = some ((flatK enc k d)[t]!) := by
   rw [Array.getElem?_toList,Array.getElem?_eq_getElem (by rw [size_flatK]; exact ht),getElem!_pos (flatK enc k d) t (by rw [size_flatK]; exact ht)]
  rw [h1,get_flatK _ _ _ _ ht]
  conv => rhs; rw [e]
  rw [cellsK_at hk d.toList (t / k) (by simpa using hq) (t % k) (Nat.mod_lt _ hkp)]
  have hm : t % k < (enc d[t / k]!).length := by rw [hk]; exact Nat.mod_lt _ hkp
  rw [getElem!_pos (enc d[t / k]!) (t % k) hm]
  have hd : d[t / k]! = d.toList[t / k]'(by simpa using hq) := by rw [getElem!_pos d _ hq]; simp
  simp only [hd] at hm ⊢
  rw [List.getElem?_eq_getElem hm]
 ·rw [List.getElem?_eq_none (by rw [Array.length_toList,size_flatK]; omega),List.getElem?_eq_none (by rw [cellsK_len hk,Array.length_toList]; omega)]
theorem owns_holdsK (hk : ∀ x,(enc x).length = k) {w : World} {base e g cap : Nat} {l : List α} (h : w.ownsRow base e k (.slice (some ⟨g,0,none⟩) l.length cap) l.length (cellsK enc l)) : HoldsK enc k w g 0 l.toArray := by
 unfold HoldsK
 intro j hj
 rw [size_flatK,List.size_toArray] at hj
 refine ⟨?_,owns_frozen h _⟩
 rw [Nat.zero_add,h.cellAt j hj,← flatK_list hk l.toArray,Array.getElem?_toList,Array.getElem?_eq_getElem (by rw [size_flatK]; exact hj),getElem!_pos (flatK enc k l.toArray) j (by rw [size_flatK]; exact hj)]
 rfl
theorem permIn_list {l : List α} {d : Array α} (h : PermIn 0 l.length l.toArray d) : d.toList.Perm l := by
 have h1 : d.size = l.length := by have := h.1; simpa using this
 have h3 := h.2.2
 have e1 : d.extract 0 l.length = d := Array.extract_eq_self_of_le (by omega)
 have e2 : l.toArray.extract 0 l.length = l.toArray := Array.extract_eq_self_of_le (by simp)
 rw [e1,e2] at h3
 exact h3
theorem sortedIn_list {lt : α → α → Bool} {l : List α} {d : Array α} (hs : d.size = l.length) (h : SortedIn lt 0 l.length d) : d.toList.Pairwise fun x y => ¬(lt y x = true) := by
 rw [List.pairwise_iff_getElem]
 intro i j hi hj hij
 have hi' : i < d.size := by simpa using hi
 have hj' : j < d.size := by simpa using hj
 have := h i j (Nat.zero_le _) hij (by omega)
 rw [getElem!_pos d i hi', getElem!_pos d j hj'] at this
 simpa using this
theorem sort_back (hk : ∀ x,(enc x).length = k) {W : World} {base e blk cap : Nat} {l : List α} (h : W.ownsRow base e k (.slice (some ⟨blk,0,none⟩) l.length cap) l.length (cellsK enc l)) (d : Array α) (n : Nat) (os : Array Obj) (hd : d.size = l.length) :
  (sortWorldK enc k W blk 0 n d os).ownsRow base e k (.slice (some ⟨blk,0,none⟩) l.length cap) l.length (cellsK enc d.toList) ∧ W.grownBy (sortWorldK enc k W blk 0 n d os) (some blk) := by
 have hlt := (h.lt blk rfl).2
 have h1 := owns_put h n (flatK enc k d) (n' := l.length) (by rw [size_flatK,hd]; exact Nat.le_refl _) (by rw [size_flatK,hd]; exact Nat.le_refl _) (Nat.le_refl _)
 rw [List.take_of_length_le (by rw [Array.length_toList,size_flatK,hd]; exact Nat.le_refl _),flatK_list hk] at h1
 have hg := put_grown W n blk 0 (flatK enc k d)
 have hsz : (putRow id (Sort.ahead W n) blk 0 (flatK enc k d)).heap.size = W.heap.size := by rw [size_putRow]; rfl
 have hw : sortWorldK enc k W blk 0 n d os = grow (putRow id (Sort.ahead W n) blk 0 (flatK enc k d)) os := rfl
 rw [hw]
 refine ⟨ownsRow_same h1 fun g hg => heap_grow_old _ _ ?_,⟨rfl,rfl,rfl,by rw [size_grow,hsz]; omega,fun i hi hne => ?_⟩⟩
 ·have := h1.lt g hg; exact this.2
 ·rw [heap_grow_old _ _ (by rw [hsz]; exact hi)]
  exact hg.block i hi hne
end
end Go.Proofs.YtbagikgpgdlkcaaGreatDoor
