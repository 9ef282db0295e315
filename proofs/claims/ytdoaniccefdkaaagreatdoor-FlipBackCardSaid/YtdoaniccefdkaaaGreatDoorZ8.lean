/- Part of the proof. No conditions. -/
import Derived.Test.YtdoaniccefdkaaaGreatDoorZ7
import Derived.Shelf.SlSortCmp.WholeK
import Derived.BigQuiet
import Derived.Handy
import Derived.Deep.RegionHeld3
import Derived.Lib.SliceRun

set_option linter.all false
/- Rows of k cells an element, and what slices.SortFunc leaves of one. -/
namespace Go.Proofs.YtdoaniccefdkaaaGreatDoor
open Go.RowKit Go.Maps Go.WideMaps Go.Sort

section
variable {α : Type} {enc : α → List Value} {k : Nat}

/-- a row's cells -/
def cellsK (enc : α → List Value) (l : List α) : List Value := l.flatMap enc
theorem cellsK_len (hk : ∀ x, (enc x).length = k) (l : List α) : (cellsK enc l).length = l.length * k := by
  induction l with
  | nil => simp [cellsK]
  | cons x r ih =>
    unfold cellsK at *
    rw [List.flatMap_cons, List.length_append, ih, hk, List.length_cons, Nat.add_mul]; omega
theorem cellsK_append (l r : List α) : cellsK enc (l ++ r) = cellsK enc l ++ cellsK enc r := by unfold cellsK; rw [List.flatMap_append]
theorem cellsK_one (x : α) : cellsK enc [x] = enc x := by unfold cellsK; simp
theorem cellsK_at (hk : ∀ x, (enc x).length = k) : ∀ (l : List α) (i : Nat) (hi : i < l.length) (j : Nat), j < k → (cellsK enc l)[i * k + j]? = (enc l[i])[j]?
  | [], i, hi, _, _ => absurd hi (by simp)
  | x :: r, 0, _, j, hj => by
    unfold cellsK
    rw [List.flatMap_cons, List.getElem?_append_left (by rw [hk]; omega)]
    simp
  | x :: r, i + 1, hi, j, hj => by
    have ih := cellsK_at hk r i (by simpa using hi) j hj
    unfold cellsK at *
    rw [List.flatMap_cons, List.getElem?_append_right (by rw [hk, Nat.add_mul]; omega), hk]
    rw [show (i + 1) * k + j - k = i * k + j by rw [Nat.add_mul]; omega, ih]
    simp

end

section
variable {α : Type} [Inhabited α] {enc : α → List Value} {k : Nat}

theorem flatK_list (hk : ∀ x, (enc x).length = k) (d : Array α) : (flatK enc k d).toList = cellsK enc d.toList := by
  apply List.ext_getElem?
  intro t
  by_cases ht : t < d.size * k
  · have hkp : 0 < k := by
      rcases Nat.eq_zero_or_pos k with h | h
      · subst h; simp at ht
      · exact h
    have hq : t / k < d.size := Nat.div_lt_of_lt_mul (by rw [Nat.mul_comm]; exact ht)
    have e : t = t / k * k + t % k := by have := Nat.div_add_mod t k; rw [Nat.mul_comm] at this; omega
    have h1 : (flatK enc k d).toList[t]? = some ((flatK enc k d)[t]!) := by
      rw [Array.getElem?_toList, Array.getElem?_eq_getElem (by rw [size_flatK]; exact ht), getElem!_pos (flatK enc k d) t (by rw [size_flatK]; exact ht)]
    rw [h1, get_flatK _ _ _ _ ht]
    conv => rhs; rw [e]
    rw [cellsK_at hk d.toList (t / k) (by simpa using hq) (t % k) (Nat.mod_lt _ hkp)]
    have hm : t % k < (enc d[t / k]!).length := by rw [hk]; exact Nat.mod_lt _ hkp
    rw [getElem!_pos (enc d[t / k]!) (t % k) hm]
    have hd : d[t / k]! = d.toList[t / k]'(by simpa using hq) := by rw [getElem!_pos d _ hq]; simp
    simp only [hd] at hm ⊢
    rw [List.getElem?_eq_getElem hm]
  · rw [List.getElem?_eq_none (by rw [Array.length_toList, size_flatK]; omega), List.getElem?_eq_none (by rw [cellsK_len hk, Array.length_toList]; omega)]

theorem owns_holdsK (hk : ∀ x, (enc x).length = k) {w : World} {base e g cap : Nat} {l : List α} (h : w.ownsRow base e k (.slice (some ⟨g, 0, none⟩) l.length cap) l.length (cellsK enc l)) : HoldsK enc k w g 0 l.toArray := by
  unfold HoldsK
  intro j hj
  rw [size_flatK, List.size_toArray] at hj
  refine ⟨?_, owns_frozen h _⟩
  rw [Nat.zero_add, h.cellAt j hj, ← flatK_list hk l.toArray, Array.getElem?_toList, Array.getElem?_eq_getElem (by rw [size_flatK]; exact hj), getElem!_pos (flatK enc k l.toArray) j (by rw [size_flatK]; exact hj)]
  rfl

theorem permIn_list {l : List α} {d : Array α} (h : PermIn 0 l.length l.toArray d) : d.toList.Perm l := by
  have h1 : d.size = l.length := by have := h.1; simpa using this
  have h3 := h.2.2
  have e1 : d.extract 0 l.length = d := Array.extract_eq_self_of_le (by omega)
  have e2 : l.toArray.extract 0 l.length = l.toArray := Array.extract_eq_self_of_le (by simp)
  rw [e1, e2] at h3
  exact h3

theorem sortedIn_list {lt : α → α → Bool} {l : List α} {d : Array α} (hs : d.size = l.length) (h : SortedIn lt 0 l.length d) : d.toList.Pairwise fun x y => ¬(lt y x = true) := by
  rw [List.pairwise_iff_getElem]
  intro i j hi hj hij
  have hi' : i < d.size := by simpa using hi
  have hj' : j < d.size := by simpa using hj
  have := h i j (Nat.zero_le _) hij (by omega)
  rw [getElem!_pos d i hi', getElem!_pos d j hj'] at this
  simpa using this

theorem sort_back (hk : ∀ x, (enc x).length = k) {W : World} {base e blk cap : Nat} {l : List α} (h : W.ownsRow base e k (.slice (some ⟨blk, 0, none⟩) l.length cap) l.length (cellsK enc l)) (d : Array α) (n : Nat) (os : Array Obj) (hd : d.size = l.length) :
    (sortWorldK enc k W blk 0 n d os).ownsRow base e k (.slice (some ⟨blk, 0, none⟩) l.length cap) l.length (cellsK enc d.toList) ∧ W.grownBy (sortWorldK enc k W blk 0 n d os) (some blk) := by
  have hlt := (h.lt blk rfl).2
  have h1 := owns_put h n (flatK enc k d) (n' := l.length) (by rw [size_flatK, hd]; exact Nat.le_refl _) (by rw [size_flatK, hd]; exact Nat.le_refl _) (Nat.le_refl _)
  rw [List.take_of_length_le (by rw [Array.length_toList, size_flatK, hd]; exact Nat.le_refl _), flatK_list hk] at h1
  have hg := put_grown W n blk 0 (flatK enc k d)
  have hsz : (putRow id (Sort.ahead W n) blk 0 (flatK enc k d)).heap.size = W.heap.size := by rw [size_putRow]; rfl
  have hw : sortWorldK enc k W blk 0 n d os = grow (putRow id (Sort.ahead W n) blk 0 (flatK enc k d)) os := rfl
  rw [hw]
  refine ⟨ownsRow_same h1 fun g hg => heap_grow_old _ _ ?_, ⟨rfl, rfl, rfl, by rw [size_grow, hsz]; omega, fun i hi hne => ?_⟩⟩
  · have := h1.lt g hg; exact this.2
  · rw [heap_grow_old _ _ (by rw [hsz]; exact hi)]
    exact hg.block i hi hne
end

end Go.Proofs.YtdoaniccefdkaaaGreatDoor

/- Plain lists: how many triangles, edges, border edges there are. -/
namespace Go.Proofs.YtdoaniccefdkaaaGreatDoor

/-- edges run about triangles -/
structure Rot (ap : Int → Int → Option Int) : Prop where
  rot : ∀ a b c, ap a b = some c → ap b c = some a
  ne : ∀ a b c, ap a b = some c → a ≠ b ∧ b ≠ c ∧ a ≠ c

def nxt (ap : Int → Int → Option Int) (x : Int × Int) : Int × Int := (x.2, (ap x.1 x.2).getD 0)
def sw (x : Int × Int) : Int × Int := (x.2, x.1)

theorem in_some {ap : Int → Int → Option Int} {x : Int × Int} (h : inB ap x = true) : ∃ c, ap x.1 x.2 = some c := by
  unfold inB at h
  exact Option.isSome_iff_exists.1 h

theorem nxt_perm {ap : Int → Int → Option Int} {n : Nat} (hw : Within ap n) (hr : Rot ap) : ((dirL ap n).map (nxt ap)).Perm (dirL ap n) := by
  refine (List.perm_ext_iff_of_nodup ?_ (ltP_nodup (dirL_sorted ap n))).2 fun x => ?_
  · unfold List.Nodup
    rw [List.pairwise_map]
    refine List.Pairwise.imp_of_mem ?_ (ltP_nodup (dirL_sorted ap n))
    intro x y hx hy hne e
    rw [mem_dirL hw] at hx hy
    obtain ⟨c, hc⟩ := in_some hx
    obtain ⟨d, hd⟩ := in_some hy
    unfold nxt at e
    rw [hc, hd] at e
    simp only [Option.getD_some, Prod.mk.injEq] at e
    have h1 := hr.rot _ _ _ hc
    have h2 := hr.rot _ _ _ hd
    rw [e.1, e.2, h2] at h1
    apply hne
    obtain ⟨a, b⟩ := x; obtain ⟨a', b'⟩ := y
    simp only [Prod.mk.injEq]
    simp only [Option.some.injEq] at h1
    exact ⟨h1.symm, e.1⟩
  · rw [mem_dirL hw, List.mem_map]
    constructor
    · rintro ⟨y, hy, rfl⟩
      rw [mem_dirL hw] at hy
      obtain ⟨c, hc⟩ := in_some hy
      unfold nxt inB
      rw [hc]
      simp only [Option.getD_some]
      rw [hr.rot _ _ _ hc]; rfl
    · intro hx
      obtain ⟨c, hc⟩ := in_some hx
      have h1 := hr.rot _ _ _ hc
      have h2 := hr.rot _ _ _ h1
      refine ⟨(c, x.1), ?_, ?_⟩
      · rw [mem_dirL hw]; unfold inB; dsimp only; rw [h2]; rfl
      · unfold nxt; dsimp only; rw [h2]; rfl

theorem countP_nxt {ap : Int → Int → Option Int} {n : Nat} (hw : Within ap n) (hr : Rot ap) (q : Int × Int → Bool) : (dirL ap n).countP (fun x => q (nxt ap x)) = (dirL ap n).countP q := by
  have := (nxt_perm hw hr).countP_eq q
  rw [List.countP_map] at this
  exact this

theorem countP_three {α : Type} {p q r : α → Bool} : ∀ (l : List α), (∀ x, x ∈ l → (p x).toNat + (q x).toNat + (r x).toNat = 1) → l.countP p + l.countP q + l.countP r = l.length
  | [], _ => rfl
  | x :: l, h => by
    have ih := countP_three l fun y hy => h y (List.mem_cons_of_mem _ hy)
    have hx := h x (List.mem_cons_self ..)
    simp only [List.countP_cons, List.length_cons]
    cases hp : p x <;> cases hq : q x <;> cases hr : r x <;> rw [hp, hq, hr] at hx <;> simp at hx ⊢ <;> omega

theorem countP_bal {α : Type} {p q r : α → Bool} : ∀ (l : List α), (∀ x, x ∈ l → (p x).toNat + (q x).toNat = (r x).toNat) → l.countP p + l.countP q = l.countP r
  | [], _ => rfl
  | x :: l, h => by
    have ih := countP_bal l fun y hy => h y (List.mem_cons_of_mem _ hy)
    have hx := h x (List.mem_cons_self ..)
    simp only [List.countP_cons]
    cases hp : p x <;> cases hq : q x <;> cases hr : r x <;> rw [hp, hq, hr] at hx <;> simp at hx ⊢ <;> omega

theorem countP_same {α : Type} {p q : α → Bool} : ∀ (l : List α), (∀ x, x ∈ l → p x = q x) → l.countP p = l.countP q
  | [], _ => rfl
  | x :: l, h => by
    have ih := countP_same l fun y hy => h y (List.mem_cons_of_mem _ hy)
    have hx := h x (List.mem_cons_self ..)
    simp only [List.countP_cons, ih, hx]

theorem dir_count (ap : Int → Int → Option Int) (n : Nat) : (dirL ap n).length = (idxL n).countP (inB ap) := by unfold dirL; rw [List.countP_eq_length_filter]
theorem bord_count (ap : Int → Int → Option Int) (n : Nat) : (bordL ap n).length = (idxL n).countP (bordB ap) := by unfold bordL; rw [List.countP_eq_length_filter]
theorem edge_count (ap : Int → Int → Option Int) (n : Nat) : (edgeL ap n).length = (idxL n).countP (edgeB ap) := by unfold edgeL; rw [List.countP_eq_length_filter]
theorem countP_dir (ap : Int → Int → Option Int) (n : Nat) (q : Int × Int → Bool) : (dirL ap n).countP q = (idxL n).countP (fun x => q x && inB ap x) := by
  unfold dirL; rw [List.countP_filter]

theorem lead_in {ap : Int → Int → Option Int} {x : Int × Int} (h : leadB ap x = true) : inB ap x = true := by
  unfold leadB at h; unfold inB
  split at h
  · rename_i e; rw [e]; rfl
  · cases h

theorem tris_count (ap : Int → Int → Option Int) (n : Nat) : (trisL ap n).length = (dirL ap n).countP (leadB ap) := by
  unfold trisL
  rw [List.length_map, ← List.countP_eq_length_filter, countP_dir]
  refine countP_same _ fun x _ => ?_
  cases h : leadB ap x
  · rfl
  · rw [lead_in h]; rfl

/-- three directed edges a triangle -/
theorem three_tris {ap : Int → Int → Option Int} {n : Nat} (hw : Within ap n) (hr : Rot ap) : 3 * (trisL ap n).length = (dirL ap n).length := by
  have h3 := countP_three (p := leadB ap) (q := fun x => leadB ap (nxt ap x)) (r := fun x => leadB ap (nxt ap (nxt ap x))) (dirL ap n) fun x hx => by
    rw [mem_dirL hw] at hx
    obtain ⟨c, hc⟩ := in_some hx
    have h1 := hr.rot _ _ _ hc
    have h2 := hr.rot _ _ _ h1
    have hn := hr.ne _ _ _ hc
    obtain ⟨a, b⟩ := x
    dsimp only at hc h1 h2 hn
    have e1 : nxt ap (a, b) = (b, c) := by unfold nxt; dsimp only; rw [hc]; rfl
    have e2 : nxt ap (b, c) = (c, a) := by unfold nxt; dsimp only; rw [h1]; rfl
    rw [e1, e2]
    unfold leadB
    dsimp only
    rw [hc, h1, h2]
    dsimp only
    by_cases q1 : a < b <;> by_cases q2 : a < c <;> by_cases q3 : b < c <;> by_cases q4 : b < a <;> by_cases q5 : c < a <;> by_cases q6 : c < b <;> first | (exfalso; omega) | simp [q1, q2, q3, q4, q5, q6]
  have k1 := countP_nxt hw hr (leadB ap)
  have k2 := countP_nxt hw hr (fun x => leadB ap (nxt ap x))
  rw [tris_count]
  omega

theorem sw_perm (n : Nat) : ((idxL n).map sw).Perm (idxL n) := by
  refine (List.perm_ext_iff_of_nodup ?_ (ltP_nodup (idxL_sorted n))).2 fun x => ?_
  · unfold List.Nodup
    rw [List.pairwise_map]
    refine List.Pairwise.imp ?_ (ltP_nodup (idxL_sorted n))
    intro x y hne e
    apply hne
    unfold sw at e
    obtain ⟨a, b⟩ := x; obtain ⟨a', b'⟩ := y
    simp only [Prod.mk.injEq] at *
    exact ⟨e.2, e.1⟩
  · rw [List.mem_map]
    constructor
    · rintro ⟨y, hy, rfl⟩
      rw [mem_idxL] at *
      exact ⟨hy.2, hy.1⟩
    · intro hx
      exact ⟨sw x, by rw [mem_idxL] at *; exact ⟨hx.2, hx.1⟩, rfl⟩

theorem countP_sw (n : Nat) (q : Int × Int → Bool) : (idxL n).countP (fun x => q (sw x)) = (idxL n).countP q := by
  have := (sw_perm n).countP_eq q
  rw [List.countP_map] at this
  exact this

/-- twice the edges are the directed edges and the border edges -/
theorem two_edges {ap : Int → Int → Option Int} (n : Nat) (hr : Rot ap) : 2 * (edgeL ap n).length = (dirL ap n).length + (bordL ap n).length := by
  have hU1 := countP_bal (p := edgeB ap) (q := fun x => edgeB ap (sw x)) (r := fun x => inB ap x || inB ap (sw x)) (idxL n) fun x _ => by
    obtain ⟨a, b⟩ := x
    unfold edgeB sw
    dsimp only
    cases h1 : inB ap (a, b)
    · cases h2 : inB ap (b, a)
      · simp
      · obtain ⟨c, hc⟩ := in_some h2
        have := (hr.ne _ _ _ hc).1
        dsimp only at this
        by_cases q1 : a < b <;> by_cases q2 : b < a <;> first | (exfalso; omega) | simp [q1, q2]
    · obtain ⟨c, hc⟩ := in_some h1
      have := (hr.ne _ _ _ hc).1
      dsimp only at this
      by_cases q1 : a < b <;> by_cases q2 : b < a <;> first | (exfalso; omega) | simp [q1, q2]
  have hU2 := countP_bal (p := inB ap) (q := fun x => bordB ap (sw x)) (r := fun x => inB ap x || inB ap (sw x)) (idxL n) fun x _ => by
    unfold bordB
    show (inB ap x).toNat + (inB ap (sw x) && !inB ap x).toNat = _
    cases inB ap x <;> cases inB ap (sw x) <;> rfl
  have k1 := countP_sw n (edgeB ap)
  have k2 := countP_sw n (bordB ap)
  rw [edge_count, dir_count, bord_count]
  omega

/-- border edges come to each point as often as they leave it -/
theorem bord_even {ap : Int → Int → Option Int} {n : Nat} (hw : Within ap n) (hr : Rot ap) (v : Int) :
    (bordL ap n).countP (fun x => decide (x.1 = v)) = (bordL ap n).countP (fun x => decide (x.2 = v)) := by
  have k0 := countP_nxt hw hr (fun x => decide (x.1 = v))
  have k0' : (dirL ap n).countP (fun x => decide (x.2 = v)) = (dirL ap n).countP (fun x => decide (x.1 = v)) := k0
  rw [countP_dir, countP_dir] at k0'
  have kb : ∀ q : Int × Int → Bool, (bordL ap n).countP q = (idxL n).countP (fun x => q x && bordB ap x) := fun q => by unfold bordL; rw [List.countP_filter]
  rw [kb, kb]
  have split : ∀ q : Int × Int → Bool, (idxL n).countP (fun x => q x && bordB ap x) + (idxL n).countP (fun x => q x && (inB ap x && inB ap (sw x))) = (idxL n).countP (fun x => q x && inB ap x) := fun q =>
    countP_bal _ fun x _ => by
      unfold bordB
      show (q x && (inB ap x && !inB ap (sw x))).toNat + _ = _
      cases q x <;> cases inB ap x <;> cases inB ap (sw x) <;> rfl
  have s1 := split fun x => decide (x.1 = v)
  have s2 := split fun x => decide (x.2 = v)
  have s3 := countP_sw n (fun x => decide (x.1 = v) && (inB ap x && inB ap (sw x)))
  have s4 : (idxL n).countP (fun x => decide ((sw x).1 = v) && (inB ap (sw x) && inB ap (sw (sw x)))) = (idxL n).countP (fun x => decide (x.2 = v) && (inB ap x && inB ap (sw x))) :=
    countP_same _ fun x _ => by
      show (decide (x.2 = v) && (inB ap (sw x) && inB ap x)) = _
      cases inB ap x <;> cases inB ap (sw x) <;> rfl
  omega

end Go.Proofs.YtdoaniccefdkaaaGreatDoor

/- The walks of a mesh's small methods: Len, has, Count, Apex, own, turned, Fixed. -/
namespace Go.Proofs.YtdoaniccefdkaaaGreatDoor
open Go.RowKit Go.Maps Go.WideMaps

theorem zeroInt (w : World) : (zeroValue 3).run Tryz.prog w = .ok (.int .i64 0) w := by kernel_rfl

theorem len_walk {w : World} {mb n : Nat} {M : MeshM} {F : Nat → Prop} (h : MeshAt w mb n M F) :
    Calls Tryz.prog 47 #[.pointer (some ⟨mb, 0, none⟩)] w fun r w' => r = .returned (.int .i64 M.P.length) ∧ w' = w := by
  obtain ⟨ba, bs, bf, pv, sv, h⟩ := h
  obtain ⟨ad, cap, rfl, _⟩ := h.ptcells
  have c0 := h.c0
  clear h
  go_enter Tryz.func47, Tryz.ntmps47
  go_wp2
  go_ret
  exact ⟨rfl, rfl⟩

theorem count_walk {w : World} {mb n : Nat} {M : MeshM} {F : Nat → Prop} (h : MeshAt w mb n M F) :
    Calls Tryz.prog 61 #[.pointer (some ⟨mb, 0, none⟩)] w fun r w' => r = .returned (.int .i64 M.cnt) ∧ w' = w := by
  obtain ⟨ba, bs, bf, pv, sv, h⟩ := h
  have c3 := h.c3
  clear h
  go_enter Tryz.func61, Tryz.ntmps61
  go_wp2
  go_ret
  exact ⟨rfl, rfl⟩

/-- is it a point's number? -/
def hasM (M : MeshM) (i : Int) : Bool := decide (0 ≤ i) && decide (i < M.P.length)

theorem has_walk {w : World} {mb n : Nat} {M : MeshM} {F : Nat → Prop} (h : MeshAt w mb n M F) (i : Int) :
    Calls Tryz.prog 89 #[.pointer (some ⟨mb, 0, none⟩), .int .i64 i] w fun r w' => r = .returned (.bool (hasM M i)) ∧ w' = w := by
  have HL := Lib.hid (len_walk h)
  clear h
  unfold hasM
  generalize (M.P.length : Int) = L at *
  by_cases h0 : 0 ≤ i
  · by_cases h1 : i < L
    all_goals
      go_enter Tryz.func89, Tryz.ntmps89
      go_wp2_with (go_at_call 47; refine HL.out.mono ?_; rintro r w1 ⟨rfl, rfl⟩)
      go_ret
      first | (simp [h0]; done) | (simp [h0]; omega)
  · go_enter Tryz.func89, Tryz.ntmps89
    go_wp2_with (go_at_call 47; refine HL.out.mono ?_; rintro r w1 ⟨rfl, rfl⟩)
    go_ret
    simp; omega

theorem edgeV_getD (f : Int → Int → Option Int) (a b : Int) : (edgeV f (kE a b)).getD (.int .i64 0) = .int .i64 ((f a b).getD 0) := by rw [edgeV_at]; cases f a b <;> rfl
theorem edgeV_isSome (f : Int → Int → Option Int) (a b : Int) : (edgeV f (kE a b)).isSome = (f a b).isSome := by rw [edgeV_at]; cases f a b <;> rfl

theorem apex_walk {w : World} {mb n : Nat} {M : MeshM} {F : Nat → Prop} (h : MeshAt w mb n M F) {a b : Int} (ha : i64ok a) (hb : i64ok b) :
    Calls Tryz.prog 19 #[.pointer (some ⟨mb, 0, none⟩), .int .i64 a, .int .i64 b] w fun r w' => r = .returned (.tuple #[.int .i64 ((M.ap a b).getD 0), .bool (M.ap a b).isSome]) ∧ w' = w := by
  obtain ⟨ba, bs, bf, pv, sv, h⟩ := h
  have c1 := h.c1
  have HF := Lib.hid h.apm
  have HK := Lib.hid (keyE ha hb)
  have HV := Lib.hid (edgeV_getD M.ap a b)
  have HI := Lib.hid (edgeV_isSome M.ap a b)
  clear h ha hb
  go_enter Tryz.func19, Tryz.ntmps19
  go_wp2_with (at_lookup; refine wp_look_ok _ rfl _ _ 113 rfl 117 3 edgeLaw Tryz.underlying113 (.int .i64 0) (zeroInt _) ba n _ rfl HF.out _ rfl _ HK.out _ HV.out _ HI.out ?_)
  go_ret2
  exact ⟨rfl, rfl⟩

def minI (a b : Int) : Int := if a ≤ b then a else b
def maxI (a b : Int) : Int := if a ≤ b then b else a

theorem own_walk (a b : Int) (w : World) :
    Calls Tryz.prog 71 #[.int .i64 a, .int .i64 b] w fun r w' => r = .returned (kE (minI a b) (maxI a b)) ∧ Below w.heap.size w w' := by
  unfold kE minI maxI
  by_cases h : a ≤ b
  all_goals
    go_enter Tryz.func71, Tryz.ntmps71
    go_wp2
    all_goals
      go_returns
      first
        | (refine ⟨?_, (Below.refl _ _).alloc (Nat.le_refl _) _⟩; congr <;> omega)
        | (refine ⟨?_, (Below.refl _ _).alloc (Nat.le_refl _) _⟩; rfl)
        | (exfalso; omega)

theorem turned_walk (a b : Int) (w : World) :
    Calls Tryz.prog 111 #[kE a b] w fun r w' => r = .returned (kE b a) ∧ Below w.heap.size w w' := by
  unfold kE
  go_enter Tryz.func111, Tryz.ntmps111
  go_wp2
  go_returns
  exact ⟨rfl, ((Below.refl _ _).alloc (Nat.le_refl _) _).alloc (by simp) _⟩

theorem around_walk (a b c : Int) (w : World) :
    Calls Tryz.prog 91 #[.int .i64 a, .int .i64 b, .int .i64 c] w fun r w' => r = .returned (.agg #[.int .i64 a, .int .i64 b, .int .i64 b, .int .i64 c, .int .i64 c, .int .i64 a]) ∧ Below w.heap.size w w' := by
  go_enter Tryz.func91, Tryz.ntmps91
  go_wp2
  go_returns
  exact ⟨rfl, (Below.refl _ _).alloc (Nat.le_refl _) _⟩

end Go.Proofs.YtdoaniccefdkaaaGreatDoor

/- The walks of Fixed, Point, New. -/
namespace Go.Proofs.YtdoaniccefdkaaaGreatDoor
open Go.RowKit Go.Maps Go.WideMaps

theorem keptOwn {w w1 w2 : World} {mb bf n : Nat} {g : Value → Option Value} (hb : Below w1.heap.size w1 w2)
    (h : w1.cell? ⟨mb, 4, none⟩ = some (.map (some bf)) ∧ FMap Tryz.prog w1 117 bf n g ∧ Below w.heap.size w w1) :
    w2.cell? ⟨mb, 4, none⟩ = some (.map (some bf)) ∧ FMap Tryz.prog w2 117 bf n g ∧ Below w.heap.size w w2 :=
  ⟨(World.cell?_of_block (hb.block mb (World.block_lt_of_cell? _ _ h.1))).trans h.1, h.2.1.same (hb.block bf h.2.1.lt), h.2.2.trans (hb.mono h.2.2.size)⟩

theorem keptDrew3 {w w1 : World} {mb bf n : Nat} {g : Value → Option Value}
    (h : w1.cell? ⟨mb, 4, none⟩ = some (.map (some bf)) ∧ FMap Tryz.prog w1 117 bf n g ∧ Below w.heap.size w w1) :
    w1.drew.cell? ⟨mb, 4, none⟩ = some (.map (some bf)) ∧ FMap Tryz.prog w1.drew 117 bf n g ∧ Below w.heap.size w w1.drew := ⟨h.1, h.2.1, h.2.2.drew⟩

theorem i64ok_min {a b : Int} (ha : i64ok a) (hb : i64ok b) : i64ok (minI a b) ∧ i64ok (maxI a b) := by
  unfold minI maxI; split <;> exact ⟨‹_›, ‹_›⟩

/-- a look-up in a map of edges, as an equation -/
theorem lookE {w : World} {bm n : Nat} {f : Int → Int → Option Int} (h : FMap Tryz.prog w 117 bm n (edgeV f)) {a b : Int} (ha : i64ok a) (hb : i64ok b) :
    (Instr.lookup 113 (.map (some bm)) (.agg #[.int .i64 a, .int .i64 b]) true).run Tryz.prog w = .ok (.tuple #[.int .i64 ((f a b).getD 0), .bool (f a b).isSome]) w := by
  have := (h.look edgeLaw Tryz.underlying113 (zeroInt w) (keyE ha hb)).2
  rw [edgeV_getD, edgeV_isSome] at this
  exact this

set_option maxRecDepth 100000 in
set_option maxHeartbeats 2000000 in
theorem fixed_walk {w : World} {mb n : Nat} {M : MeshM} {F : Nat → Prop} (h : MeshAt w mb n M F) {a b : Int} (ha : i64ok a) (hb : i64ok b) :
    Calls Tryz.prog 22 #[.pointer (some ⟨mb, 0, none⟩), .int .i64 a, .int .i64 b] w fun r w' => r = .returned (.tuple #[.int .i64 ((M.fx (minI a b) (maxI a b)).getD 0), .bool (M.fx (minI a b) (maxI a b)).isSome]) ∧ Below w.heap.size w w' := by
  obtain ⟨ba, bs, bf, pv, sv, h⟩ := h
  have hS : w.cell? ⟨mb, 4, none⟩ = some (.map (some bf)) ∧ FMap Tryz.prog w 117 bf n (edgeV M.fx) ∧ Below w.heap.size w w := ⟨h.c4, h.fxm, Below.refl _ _⟩
  have HL := Lib.hid (fun w' (hw : FMap Tryz.prog w' 117 bf n (edgeV M.fx)) => lookE hw (i64ok_min ha hb).1 (i64ok_min ha hb).2)
  have HO := Lib.hid (own_walk a b)
  clear h ha hb
  generalize minI a b = u at *
  generalize maxI a b = v at *
  unfold kE at *
  go_enter Tryz.func22, Tryz.ntmps22
  go_wp2
  go_region_held3 (fun w' => w'.cell? ⟨mb, 4, none⟩ = some (.map (some bf)) ∧ FMap Tryz.prog w' 117 bf n (edgeV M.fx) ∧ Below w.heap.size w w') (first | assumption | exact keptDrew3 (by assumption) | go_keep)
    (first | (go_at_call 71; refine (HO.out _).mono ?_; rintro r w1 ⟨rfl, hb1⟩; have n1 := keptOwn (w := w) hb1 (by assumption); have l1 := HL.out _ n1.2.1))
  go_wp2
  go_ret2
  exact ⟨rfl, n1.2.2⟩

end Go.Proofs.YtdoaniccefdkaaaGreatDoor

/- orient.Fast: that what is told fast is right. -/
namespace Go.Proofs.YtdoaniccefdkaaaGreatDoor
open Go.RowKit Tvf

theorem tri1 (P Q X Y : Int) : ((P - Q) - (X - Y)).natAbs ≤ (X - P).natAbs + (Y - Q).natAbs := by omega
theorem tri2 (P X : Int) : P.natAbs ≤ X.natAbs + (X - P).natAbs := by omega
theorem lin1 (a b p q x y e : Nat) (h1 : 2 ^ 51 * a ≤ p) (h2 : 2 ^ 51 * b ≤ q) (he : e ≤ a + b) (hp : p ≤ x + a) (hq : q ≤ y + b) : 2 ^ 51 * e ≤ p + q ∧ 2 ^ 51 * (p + q) ≤ 2 ^ 51 * (x + y) + (p + q) := by omega
theorem lin2 (A T e S M0 M d : Nat) (z : Nat) (hE : 2 ^ 51 * e ≤ T) (hTA : 2 ^ 51 * T ≤ 2 ^ 51 * A + T) (h4 : 2 ^ 53 * A ≤ 2 ^ 53 * S + A) (h5 : S = M0 * 2 ^ 50) (h6 : 2 ^ 53 * M0 ≤ 2 ^ 53 * M + M0) (h7 : M < d) (h3 : 2 ^ 53 * d ≤ 2 ^ 53 * z + z) : e < z := by omega

/-- the plain law: a difference of two products that is great beside what may be wrong has the right sign -/
theorem fast_sign (P Q X Y D : Int) (S M0 M : Nat) (h1 : 2 ^ 51 * (X - P).natAbs ≤ P.natAbs) (h2 : 2 ^ 51 * (Y - Q).natAbs ≤ Q.natAbs)
    (h3 : 2 ^ 53 * (D - (X - Y)).natAbs ≤ (X - Y).natAbs) (h4 : 2 ^ 53 * ((S : Int) - (X.natAbs + Y.natAbs : Nat)).natAbs ≤ X.natAbs + Y.natAbs) (h5 : S = M0 * 2 ^ 50) (h6 : 2 ^ 53 * ((M : Int) - M0).natAbs ≤ M0) (h7 : M < D.natAbs) :
    (0 < D → 0 < P - Q) ∧ (D < 0 → P - Q < 0) ∧ D ≠ 0 := by
  obtain ⟨e1, e2⟩ := lin1 _ _ _ _ _ _ _ h1 h2 (tri1 P Q X Y) (tri2 P X) (tri2 Q Y)
  generalize P.natAbs + Q.natAbs = T at *
  generalize X.natAbs + Y.natAbs = A at *
  have h4' : 2 ^ 53 * A ≤ 2 ^ 53 * S + A := by omega
  have h6' : 2 ^ 53 * M0 ≤ 2 ^ 53 * M + M0 := by omega
  have hD0 : D ≠ 0 := by omega
  clear h1 h2 h4 h6
  have h3' : 2 ^ 53 * D.natAbs ≤ 2 ^ 53 * (X - Y).natAbs + (X - Y).natAbs := by clear e1 e2 h4' h6'; omega
  have hlt := lin2 A T _ S M0 M D.natAbs (X - Y).natAbs e1 e2 h4' h5 h6' h7 h3'
  clear e1 e2 h4' h5 h6' h7 h3'
  generalize X - Y = Z at *
  generalize P - Q = W at *
  refine ⟨fun h => ?_, fun h => ?_, hD0⟩ <;> omega

/-- a product of two rounded differences: near to the product of the differences -/
theorem prod_near (a b p q X : Int) (hp : p = rn a) (hq : q = rn b) (hX : X = rn (p * q)) : 2 ^ 51 * (X - a * b).natAbs ≤ (a * b).natAbs := by
  have h1 := rest_small a
  have h2 := rest_small b
  have h3 := rest_small (p * q)
  rw [← hp] at h1
  rw [← hq] at h2
  rw [← hX] at h3
  clear hp hq hX
  -- the difference of the products
  have e1 : p * q - a * b = p * (q - b) + (p - a) * b := by grind
  have n1 : (p * (q - b)).natAbs = p.natAbs * (b - q).natAbs := by rw [Int.natAbs_mul, show (q - b).natAbs = (b - q).natAbs by omega]
  have n2 : ((p - a) * b).natAbs = (a - p).natAbs * b.natAbs := by rw [Int.natAbs_mul, show (p - a).natAbs = (a - p).natAbs by omega]
  have hpa : p.natAbs ≤ a.natAbs + (a - p).natAbs := by omega
  have hqb : q.natAbs ≤ b.natAbs + (b - q).natAbs := by omega
  have ea : (a * b).natAbs = a.natAbs * b.natAbs := Int.natAbs_mul a b
  have d1 : (p * q - a * b).natAbs ≤ p.natAbs * (b - q).natAbs + (a - p).natAbs * b.natAbs := by
    rw [e1, ← n1, ← n2]; exact Int.natAbs_add_le _ _
  have d2 : (X - a * b).natAbs ≤ (p * q - X).natAbs + (p * q - a * b).natAbs := by omega
  have d3 : (p * q).natAbs ≤ (a * b).natAbs + (p * q - a * b).natAbs := by omega
  rw [ea] at d3 ⊢
  generalize (X - a * b).natAbs = E at *
  generalize (p * q - a * b).natAbs = F at *
  generalize (p * q - X).natAbs = G at *
  generalize (p * q).natAbs = R at *
  generalize (a - p).natAbs = da at *
  generalize (b - q).natAbs = db at *
  generalize a.natAbs = A at *
  generalize b.natAbs = B at *
  generalize p.natAbs = Pp at *
  clear n1 n2 e1 ea hqb
  -- p.natAbs * db is at most (A + da) * db
  have f1 : Pp * db ≤ (A + da) * db := Nat.mul_le_mul_right _ hpa
  have f2 : 2 ^ 53 * (A * db) ≤ A * B := by
    rw [Nat.mul_left_comm]; exact Nat.mul_le_mul_left _ h2
  have f3 : 2 ^ 53 * (da * B) ≤ A * B := by
    rw [← Nat.mul_assoc]; exact Nat.mul_le_mul_right _ h1
  have f4 : 2 ^ 53 * (da * db) ≤ A * db := by
    rw [← Nat.mul_assoc]; exact Nat.mul_le_mul_right _ h1
  rw [Nat.add_mul] at f1
  generalize A * db = u1 at *
  generalize da * B = u2 at *
  generalize da * db = u3 at *
  generalize A * B = u4 at *
  generalize Pp * db = u5 at *
  omega

end Go.Proofs.YtdoaniccefdkaaaGreatDoor

/- orient.Fast: on words, and its walk. -/
namespace Go.Proofs.YtdoaniccefdkaaaGreatDoor
open Go.RowKit Tvf

/-- the document's sum: twice the area, with its sign, in units of 2^-2148 -/
def det (a b c : Pt) : Int := (fval b.1 - fval a.1) * (fval c.2 - fval a.2) - (fval b.2 - fval a.2) * (fval c.1 - fval a.1)

def fX (a b c : Pt) : Nat := fmul (fsub b.1 a.1) (fsub c.2 a.2)
def fY (a b c : Pt) : Nat := fmul (fsub b.2 a.2) (fsub c.1 a.1)
def fD (a b c : Pt) : Nat := fsub (fX a b c) (fY a b c)
def fS (a b c : Pt) : Nat := fadd (fX a b c % 2 ^ 63) (fY a b c % 2 ^ 63)
def fM (a b c : Pt) : Nat := fmul 4382002437431492608 (fS a b c)
def fastOK (a b c : Pt) : Bool := fgt (fD a b c % 2 ^ 63) (fM a b c)

structure CoordF (x : Nat) : Prop where
  f : fin x
  le : (fval x).natAbs ≤ 2 ^ (unitE + 100)
  dv : (2 : Int) ^ gridE ∣ fval x

theorem coordF {x : Nat} (h64 : x < 2 ^ 64) (h : coordB x = true) : CoordF x := by
  obtain ⟨h1, h2, h3, _⟩ := coord_tame h64 h
  exact ⟨h1, h2, h3⟩

/-- a rounded difference of two coordinates -/
structure DiffF (x y : Nat) : Prop where
  f : fin (fsub x y)
  v : fval (fsub x y) = rn (fval x - fval y)
  le : (fval (fsub x y)).natAbs ≤ 2 ^ (unitE + 101)
  dv : (2 : Int) ^ gridE ∣ fval (fsub x y)

theorem diffF {x y : Nat} (hx : CoordF x) (hy : CoordF y) : DiffF x y := by
  obtain ⟨c1, c2, c3⟩ := sub_step (k := unitE + 101) hx.f hy.f hx.le hy.le (by decide) (by decide) (by decide)
  exact ⟨c1, c2, c3, by rw [c2]; exact rn_dvd (Int.dvd_sub hx.dv hy.dv)⟩

def grid2 : Nat := 874
theorem grid2_eq : gridE + gridE = unitE + grid2 := rfl

/-- a product of two of them -/
theorem prodF {x y z w : Nat} (h1 : DiffF x y) (h2 : DiffF z w) : fin (fmul (fsub x y) (fsub z w)) ∧ fval (fmul (fsub x y) (fsub z w)) * 2 ^ unitE = rn (fval (fsub x y) * fval (fsub z w)) ∧
    (fval (fmul (fsub x y) (fsub z w))).natAbs ≤ 2 ^ (unitE + 202) ∧ (2 : Int) ^ grid2 ∣ fval (fmul (fsub x y) (fsub z w)) := by
  obtain ⟨c1, e1⟩ := h1.dv
  obtain ⟨c2, e2⟩ := h2.dv
  have hz : fval (fsub x y) * fval (fsub z w) = (c1 * c2 * 2 ^ grid2) * 2 ^ unitE := by
    rw [e1, e2, Int.mul_assoc (c1 * c2), ← Int.pow_add, Nat.add_comm grid2, ← grid2_eq, Int.pow_add]; grind
  have hb : (c1 * c2 * 2 ^ grid2).natAbs ≤ 2 ^ (unitE + 202) := by
    refine Nat.le_of_mul_le_mul_right ?_ (two_pow_pos unitE)
    have := congrArg Int.natAbs hz
    rw [Int.natAbs_mul _ (2 ^ unitE), natAbs_two_pow] at this
    rw [← this]
    refine Nat.le_trans (mul_natAbs_le h1.le h2.le) ?_
    rw [← Nat.pow_add, ← Nat.pow_add]; exact Nat.pow_le_pow_right (by decide) (by decide)
  obtain ⟨m1, m2⟩ := fmul_val h1.f h2.f hz (inReach_le hb (by decide))
  refine ⟨m1, by rw [m2, hz]; exact (rn_scale _ _).symm, by rw [m2]; exact rn_le_pow hb, ?_⟩
  rw [m2]
  exact rn_dvd ⟨c1 * c2, Int.mul_comm _ _⟩

theorem fval_doubt : ∃ k, k + 50 = unitE ∧ fval 4382002437431492608 = 2 ^ k :=
  ⟨51 + 973, rfl, fval_pow (F := 973) (by unfold fin; omega) (by omega) (by omega) (by omega) (by omega) rfl⟩

structure FastF (a b c : Pt) : Prop where
  ga1 : fin a.1
  ga2 : fin a.2
  gb1 : fin b.1
  gb2 : fin b.2
  gc1 : fin c.1
  gc2 : fin c.2
  f1 : fin (fsub b.1 a.1)
  f2 : fin (fsub c.2 a.2)
  f3 : fin (fsub b.2 a.2)
  f4 : fin (fsub c.1 a.1)
  fx : fin (fX a b c)
  fy : fin (fY a b c)
  fd : fin (fD a b c)
  fs : fin (fS a b c)
  fm : fin (fM a b c)
  sgn : fastOK a b c = true → sgnI (fval (fD a b c)) = sgnI (det a b c)

theorem fast_facts {a b c : Pt} (ha : pt64 a) (hb : pt64 b) (hc : pt64 c) (oa : ptOK a = true) (ob : ptOK b = true) (oc : ptOK c = true) : FastF a b c := by
  unfold ptOK at oa ob oc
  rw [Bool.and_eq_true] at oa ob oc
  have a1 := coordF ha.1 oa.1
  have a2 := coordF ha.2 oa.2
  have b1 := coordF hb.1 ob.1
  have b2 := coordF hb.2 ob.2
  have c1 := coordF hc.1 oc.1
  have c2 := coordF hc.2 oc.2
  have d1 := diffF b1 a1
  have d2 := diffF c2 a2
  have d3 := diffF b2 a2
  have d4 := diffF c1 a1
  obtain ⟨x1, x2, x3, x4⟩ := prodF d1 d2
  obtain ⟨y1, y2, y3, y4⟩ := prodF d3 d4
  have hXl : (fval (fX a b c)).natAbs ≤ 2 ^ (unitE + 202) := x3
  have hYl : (fval (fY a b c)).natAbs ≤ 2 ^ (unitE + 202) := y3
  have nx := prod_near (fval b.1 - fval a.1) (fval c.2 - fval a.2) _ _ (fval (fX a b c) * 2 ^ unitE) d1.v d2.v x2
  have ny := prod_near (fval b.2 - fval a.2) (fval c.1 - fval a.1) _ _ (fval (fY a b c) * 2 ^ unitE) d3.v d4.v y2
  obtain ⟨e1, e2, e3⟩ := sub_step (k := unitE + 203) x1 y1 x3 y3 (by decide) (by decide) (by decide)
  have ax : fval (fX a b c % 2 ^ 63) = ((fval (fX a b c)).natAbs : Int) := fval_abs _
  have ay : fval (fY a b c % 2 ^ 63) = ((fval (fY a b c)).natAbs : Int) := fval_abs _
  obtain ⟨s1, s2, s3⟩ := add_step (k := unitE + 203) (fin_abs x1) (fin_abs y1) (by rw [fval_abs, Int.natAbs_natCast]; exact x3) (by rw [fval_abs, Int.natAbs_natCast]; exact y3) (by decide) (by decide) (by decide)
  have s2' : fval (fS a b c) = rn (((fval (fX a b c)).natAbs + (fval (fY a b c)).natAbs : Nat) : Int) := by
    have : fval (fS a b c) = rn (fval (fX a b c % 2 ^ 63) + fval (fY a b c % 2 ^ 63)) := s2
    rw [this, ax, ay]; rfl
  -- a multiple of 2^50
  have hSd : (2 : Int) ^ 50 ∣ fval (fS a b c) := by
    rw [s2']
    refine rn_dvd (dvd_mono (show 50 ≤ grid2 by decide) ?_)
    rw [Int.natCast_add]
    exact Int.dvd_add (Int.dvd_natAbs.2 x4) (Int.dvd_natAbs.2 y4)
  obtain ⟨M0, hM0⟩ := hSd
  have hS0 : 0 ≤ fval (fS a b c) := by rw [s2']; exact rn_nonneg (by omega)
  have hM00 : 0 ≤ M0 := by omega
  obtain ⟨m0, rfl⟩ := Int.eq_ofNat_of_zero_le hM00
  obtain ⟨k, hk, hkv⟩ := fval_doubt
  have hmz : fval 4382002437431492608 * fval (fS a b c) = (m0 : Int) * 2 ^ unitE := by
    rw [hkv, hM0, ← Int.mul_assoc, ← Int.pow_add, hk, Int.mul_comm]
  have hml : (m0 : Int).natAbs ≤ 2 ^ (unitE + 203) := by
    have : (fval (fS a b c)).natAbs ≤ 2 ^ (unitE + 203) := s3
    rw [hM0] at this
    refine Nat.le_trans ?_ this
    rw [Int.natAbs_mul, natAbs_two_pow]
    exact Nat.le_mul_of_pos_left _ (two_pow_pos 50)
  obtain ⟨q1, q2⟩ := fmul_val (by unfold fin; omega) s1 hmz (inReach_le hml (by decide))
  refine ⟨a1.f, a2.f, b1.f, b2.f, c1.f, c2.f, d1.f, d2.f, d3.f, d4.f, x1, y1, e1, s1, q1, ?_⟩
  intro hok
  unfold fastOK at hok
  rw [fgt_val (x := fD a b c % 2 ^ 63) (y := fM a b c) (fin_abs (show fin (fD a b c) from e1)) (show fin (fM a b c) from q1), fval_abs] at hok
  have hlt := of_decide_eq_true hok
  have q2' : fval (fM a b c) = rn m0 := q2
  have e2' : fval (fD a b c) = rn (fval (fX a b c) - fval (fY a b c)) := e2
  have hmr : 0 ≤ rn (m0 : Int) := rn_nonneg (by omega)
  obtain ⟨mr, hmr2⟩ := Int.eq_ofNat_of_zero_le hmr
  obtain ⟨sr, hsr⟩ := Int.eq_ofNat_of_zero_le hS0
  have hU : 0 < 2 ^ unitE := two_pow_pos unitE
  have cast : ((2 ^ unitE : Nat) : Int) = (2 : Int) ^ unitE := by simp
  have k3 := rest_small (fval (fX a b c) - fval (fY a b c))
  have k4 := rest_small (((fval (fX a b c)).natAbs + (fval (fY a b c)).natAbs : Nat) : Int)
  have k6 := rest_small (m0 : Int)
  rw [← e2'] at k3
  rw [← s2', hsr] at k4
  rw [hmr2] at k6
  have habs : ∀ z : Int, (z * 2 ^ unitE).natAbs = z.natAbs * 2 ^ unitE := fun z => by rw [Int.natAbs_mul, natAbs_two_pow]
  have res := fast_sign ((fval b.1 - fval a.1) * (fval c.2 - fval a.2)) ((fval b.2 - fval a.2) * (fval c.1 - fval a.1)) (fval (fX a b c) * 2 ^ unitE) (fval (fY a b c) * 2 ^ unitE) (fval (fD a b c) * 2 ^ unitE) (sr * 2 ^ unitE) (m0 * 2 ^ unitE) (mr * 2 ^ unitE) nx ny
    (by
      rw [← Int.sub_mul, ← Int.sub_mul, habs, habs, ← Nat.mul_assoc]
      refine Nat.mul_le_mul_right _ ?_
      clear nx ny hXl hYl x3 y3 e3 s3 hml k4 k6
      generalize fval (fX a b c) - fval (fY a b c) = Z at *
      generalize fval (fD a b c) = D at *
      omega)
    (by
      rw [habs, habs, ← Nat.add_mul, Int.natCast_mul, Int.natCast_mul, ← Int.sub_mul, cast, habs, ← Nat.mul_assoc]
      refine Nat.mul_le_mul_right _ ?_
      clear nx ny hXl hYl x3 y3 e3 s3 hml k3 k6
      generalize (fval (fX a b c)).natAbs + (fval (fY a b c)).natAbs = Z at *
      omega)
    (by
      have : sr = m0 * 2 ^ 50 := by
        rw [hM0] at hsr
        omega
      rw [this, Nat.mul_assoc, Nat.mul_assoc, Nat.mul_comm (2 ^ 50)])
    (by
      rw [Int.natCast_mul, Int.natCast_mul, ← Int.sub_mul, cast, habs, ← Nat.mul_assoc]
      refine Nat.mul_le_mul_right _ ?_
      clear nx ny hXl hYl x3 y3 e3 s3 hml k3 k4
      omega)
    (by
      rw [habs]
      refine Nat.mul_lt_mul_of_pos_right ?_ hU
      rw [q2', hmr2] at hlt
      omega)
  have hdd : (fval b.1 - fval a.1) * (fval c.2 - fval a.2) - (fval b.2 - fval a.2) * (fval c.1 - fval a.1) = det a b c := rfl
  rw [hdd] at res
  rw [← sgnI_mul (z := fval (fD a b c)) (k := unitE)]
  clear nx ny hXl hYl x3 y3 e3 s3 hml k3 k4 k6
  unfold sgnI
  generalize fval (fD a b c) * 2 ^ unitE = Z at *
  generalize det a b c = W at *
  obtain ⟨r1, r2, r3⟩ := res
  by_cases h : Z < 0
  · rw [if_pos h, if_pos (r2 h)]
  · have h2 : 0 < Z := by omega
    have := r1 h2
    rw [if_neg h, if_pos h2, if_neg (by omega), if_pos this]

end Go.Proofs.YtdoaniccefdkaaaGreatDoor

/- The walks of orient.sign and orient.Fast. -/
namespace Go.Proofs.YtdoaniccefdkaaaGreatDoor
open Go.RowKit Tvf

set_option maxRecDepth 100000 in
set_option maxHeartbeats 400000 in
theorem osign_walk (x : Nat) (hx : fin x) (w : World) :
    Calls Tryz.prog 185 #[.float .f64 x] w fun r w' => r = .returned (.int .i64 (sgnI (fval x))) ∧ w = w' := by
  have h0 : fin 0 := by unfold fin; omega
  have hg : fgt x 0 = decide (0 < fval x) := fgt_val hx h0
  have hl : flt x 0 = decide (fval x < 0) := flt_val hx h0
  unfold sgnI
  by_cases h1 : fval x < 0
  · rw [if_pos h1]
    rw [show decide (0 < fval x) = false by simp; omega] at hg
    rw [show decide (fval x < 0) = true by simpa using h1] at hl
    clear h1
    go_enter Tryz.func185, Tryz.ntmps185
    go_wp2
    go_ret
    exact ⟨rfl, rfl⟩
  · rw [if_neg h1]
    rw [show decide (fval x < 0) = false by simpa using h1] at hl
    by_cases h2 : 0 < fval x
    · rw [if_pos h2]
      rw [show decide (0 < fval x) = true by simpa using h2] at hg
      clear h1 h2
      go_enter Tryz.func185, Tryz.ntmps185
      go_wp2
      go_ret
      exact ⟨rfl, rfl⟩
    · rw [if_neg h2]
      rw [show decide (0 < fval x) = false by simpa using h2] at hg
      clear h1 h2
      go_enter Tryz.func185, Tryz.ntmps185
      go_wp2
      go_ret
      exact ⟨rfl, rfl⟩

def V (p : Pt) : Value := .agg #[.float .f64 p.1, .float .f64 p.2]

theorem cell_alloc4 (w : World) (a0 a1 b0 b1 c0 c1 : Value) (T : TypeId) (D : Obj) (w1 : World)
    (hb : Below ((((w.alloc (.cells #[a0, a1] T)).alloc (.cells #[b0, b1] T)).alloc (.cells #[c0, c1] T)).alloc D).heap.size ((((w.alloc (.cells #[a0, a1] T)).alloc (.cells #[b0, b1] T)).alloc (.cells #[c0, c1] T)).alloc D) w1) :
    w1.cell? ⟨w.heap.size, 0, none⟩ = some a0 ∧ w1.cell? ⟨w.heap.size, 1, none⟩ = some a1 ∧ w1.cell? ⟨w.heap.size + 1, 0, none⟩ = some b0 ∧ w1.cell? ⟨w.heap.size + 1, 1, none⟩ = some b1 ∧ w1.cell? ⟨w.heap.size + 1 + 1, 0, none⟩ = some c0 ∧ w1.cell? ⟨w.heap.size + 1 + 1, 1, none⟩ = some c1 ∧ Below w.heap.size w w1 := by
  have hB : Below w.heap.size w ((((w.alloc (.cells #[a0, a1] T)).alloc (.cells #[b0, b1] T)).alloc (.cells #[c0, c1] T)).alloc D) := ((((Below.refl _ _).alloc (Nat.le_refl _) _).alloc (by simp) _).alloc (by simp <;> omega) _).alloc (by simp <;> omega) _
  refine ⟨?_, ?_, ?_, ?_, ?_, ?_, hB.trans (hb.mono (by simp <;> omega))⟩
  · rw [hb.cell (p := ⟨w.heap.size, 0, none⟩) (by simp <;> omega), World.cell?_alloc_past _ _ _ (by simp <;> omega), World.cell?_alloc_past _ _ _ (by simp <;> omega), World.cell?_alloc_past _ _ _ (by simp), World.cell?_alloc_at _ _ _ _ rfl]; rfl
  · rw [hb.cell (p := ⟨w.heap.size, 1, none⟩) (by simp <;> omega), World.cell?_alloc_past _ _ _ (by simp <;> omega), World.cell?_alloc_past _ _ _ (by simp <;> omega), World.cell?_alloc_past _ _ _ (by simp), World.cell?_alloc_at _ _ _ _ rfl]; rfl
  · rw [hb.cell (p := ⟨w.heap.size + 1, 0, none⟩) (by simp <;> omega), World.cell?_alloc_past _ _ _ (by simp <;> omega), World.cell?_alloc_past _ _ _ (by simp <;> omega), World.cell?_alloc_at _ _ _ _ (by simp)]; rfl
  · rw [hb.cell (p := ⟨w.heap.size + 1, 1, none⟩) (by simp <;> omega), World.cell?_alloc_past _ _ _ (by simp <;> omega), World.cell?_alloc_past _ _ _ (by simp <;> omega), World.cell?_alloc_at _ _ _ _ (by simp)]; rfl
  · rw [hb.cell (p := ⟨w.heap.size + 1 + 1, 0, none⟩) (by simp <;> omega), World.cell?_alloc_past _ _ _ (by simp <;> omega), World.cell?_alloc_at _ _ _ _ (by simp)]; rfl
  · rw [hb.cell (p := ⟨w.heap.size + 1 + 1, 1, none⟩) (by simp <;> omega), World.cell?_alloc_past _ _ _ (by simp <;> omega), World.cell?_alloc_at _ _ _ _ (by simp)]; rfl

theorem heap_new3 (w : World) (A B C D : Obj) : ((((w.alloc A).alloc B).alloc C).alloc D).heap[w.heap.size + 1 + 1 + 1]? = some D := by
  have h := heap_alloc_new (((w.alloc A).alloc B).alloc C) D
  have e : (((w.alloc A).alloc B).alloc C).heap.size = w.heap.size + 1 + 1 + 1 := by simp
  rw [e] at h; exact h

theorem may3 (a b c : Pt) (h64 : ∀ p, p ∈ [a, b, c] → pt64 p) (ok : Bool) (h : [a, b, c].all ptOK = ok) (w : World) (blk : Nat)
    (hb : w.heap[blk]? = some (.cells #[.float .f64 a.1, .float .f64 a.2, .float .f64 b.1, .float .f64 b.2, .float .f64 c.1, .float .f64 c.2] 52 (0, 0))) :
    Calls Tryz.prog 148 #[.slice (some ⟨blk, 0, none⟩) 3 3] w fun r w' => r = .returned (.bool ok) ∧ Below w.heap.size w w' := by
  have hlt : blk < w.heap.size := by
    apply Classical.byContradiction; intro hn
    rw [Array.getElem?_eq_none (by omega)] at hb; cases hb
  have := orient_may [a, b, c] (some ⟨blk, 0, none⟩) 3 h64 (by simp) w (by
    intro _
    refine ⟨blk, 0, rfl, hlt, ?_⟩
    intro i hi
    have hi3 : i = 0 ∨ i = 1 ∨ i = 2 := by simp at hi; omega
    rcases hi3 with rfl | rfl | rfl <;> exact ⟨by simp [World.cell?, hb], by simp [World.cell?, hb]⟩)
  rw [h] at this
  exact this

set_option maxRecDepth 100000 in
set_option maxHeartbeats 1600000 in
theorem fast_no (ax ay bx bY cx cy : Nat) (h64 : ∀ p, p ∈ [(ax, ay), (bx, bY), (cx, cy)] → pt64 p) (h : [(ax, ay), (bx, bY), (cx, cy)].all ptOK = false) (w : World) :
    Calls Tryz.prog 147 #[V (ax, ay), V (bx, bY), V (cx, cy)] w fun r w' => r = .returned (.tuple #[.int .i64 0, .bool false]) ∧ Below w.heap.size w w' := by
  have HM := Lib.hid (may3 (ax, ay) (bx, bY) (cx, cy) h64 false h)
  clear h64 h
  unfold V
  go_enter Tryz.func147, Tryz.ntmps147
  go_wp2_with (go_at_call 148; refine (HM.out _ _ (heap_new3 _ _ _ _ _)).mono ?_; rintro r w1 ⟨rfl, hb1⟩; obtain ⟨_, _, _, _, _, _, hbw⟩ := cell_alloc4 _ _ _ _ _ _ _ _ _ _ hb1; clear hb1)
  go_ret2
  exact ⟨rfl, hbw⟩

set_option maxRecDepth 100000 in
set_option maxHeartbeats 1600000 in
theorem fast_yes (ax ay bx bY cx cy : Nat) (h64 : ∀ p, p ∈ [(ax, ay), (bx, bY), (cx, cy)] → pt64 p) (h : [(ax, ay), (bx, bY), (cx, cy)].all ptOK = true) (hF : FastF (ax, ay) (bx, bY) (cx, cy)) (w : World) :
    Calls Tryz.prog 147 #[V (ax, ay), V (bx, bY), V (cx, cy)] w fun r w' => r = .returned (.tuple #[.int .i64 (if fastOK (ax, ay) (bx, bY) (cx, cy) then sgnI (fval (fD (ax, ay) (bx, bY) (cx, cy))) else 0), .bool (fastOK (ax, ay) (bx, bY) (cx, cy))]) ∧ Below w.heap.size w w' := by
  have HM := Lib.hid (may3 (ax, ay) (bx, bY) (cx, cy) h64 true h)
  obtain ⟨ga1, ga2, gb1, gb2, gc1, gc2, f1, f2, f3, f4, fx, fy, fd, fs, fm, fsg⟩ := hF
  clear fsg
  dsimp only at ga1 ga2 gb1 gb2 gc1 gc2
  have HSG := Lib.hid (osign_walk (fD (ax, ay) (bx, bY) (cx, cy)) fd)
  have hdt : fin 4382002437431492608 := by unfold fin; omega
  have HX := Lib.hid fx.1
  have HY := Lib.hid fy.1
  have HD := Lib.hid fd.1
  have fxa := fin_abs fx
  have fya := fin_abs fy
  clear h64 h fd fm
  unfold fastOK
  unfold fD fS fX fY at *
  unfold fM fS fX fY at *
  dsimp only at *
  cases hk : fgt (fsub (fmul (fsub bx ax) (fsub cy ay)) (fmul (fsub bY ay) (fsub cx ax)) % 2 ^ 63) (fmul 4382002437431492608 (fadd (fmul (fsub bx ax) (fsub cy ay) % 2 ^ 63) (fmul (fsub bY ay) (fsub cx ax) % 2 ^ 63)))
  all_goals
    unfold V
    go_enter Tryz.func147, Tryz.ntmps147
    go_wp2_with (first
      | (go_at_call 148; refine (HM.out _ _ (heap_new3 _ _ _ _ _)).mono ?_; rintro r w1 ⟨rfl, hb1⟩; obtain ⟨k1, k2, k3, k4, k5, k6, hbw⟩ := cell_alloc4 _ _ _ _ _ _ _ _ _ _ hb1; clear hb1)
      | (go_at_call 184; (first | (with_reducible refine (abs_any _ HX.out _).mono ?_) | (with_reducible refine (abs_any _ HY.out _).mono ?_) | (with_reducible refine (abs_any _ HD.out _).mono ?_)); rintro r w2 ⟨rfl, rfl⟩)
      | (go_at_call 185; refine (HSG.out _).mono ?_; rintro r w2 ⟨rfl, rfl⟩))
    go_ret2
    exact ⟨rfl, hbw⟩

end Go.Proofs.YtdoaniccefdkaaaGreatDoor

/- admit.May, admit.All: which points may be. -/
namespace Go.Proofs.YtdoaniccefdkaaaGreatDoor
open Go.RowKit Tvf

set_option maxRecDepth 100000 in
set_option maxHeartbeats 1000000 in
theorem may_walk (p : Pt) (h64 : pt64 p) (w : World) :
    Calls Tryz.prog 95 #[V p] w fun r w' => r = .returned (.bool (ptOK p)) ∧ Below w.heap.size w w' := by
  obtain ⟨x, y⟩ := p
  have HX := Lib.hid (admit_coordinate x h64.1)
  have HY := Lib.hid (admit_coordinate y h64.2)
  clear h64
  unfold V ptOK
  dsimp only
  cases hx : coordB x
  · rw [hx] at HX
    go_enter Tryz.func95, Tryz.ntmps95
    go_wp2_with (go_at_call 151; (first | (with_reducible refine (HX.out _).mono ?_) | (with_reducible refine (HY.out _).mono ?_)); rintro r w1 ⟨rfl, rfl⟩)
    go_ret
    exact ⟨rfl, (Below.refl _ _).alloc (Nat.le_refl _) _⟩
  · rw [hx] at HX
    cases hy : coordB y
    all_goals
      rw [hy] at HY
      go_enter Tryz.func95, Tryz.ntmps95
      go_wp2_with (go_at_call 151; (first | (with_reducible refine (HX.out _).mono ?_) | (with_reducible refine (HY.out _).mono ?_)); rintro r w1 ⟨rfl, rfl⟩)
      go_ret
      exact ⟨rfl, (Below.refl _ _).alloc (Nat.le_refl _) _⟩

theorem notmay_walk (p : Pt) (h64 : pt64 p) (w : World) :
    Calls Tryz.prog 146 #[V p] w fun r w' => r = .returned (.bool (!ptOK p)) ∧ Below w.heap.size w w' := by
  obtain ⟨x, y⟩ := p
  have HM := Lib.hid (may_walk (x, y) h64)
  clear h64
  generalize ptOK (x, y) = ok at *
  unfold V at *
  go_enter Tryz.func146, Tryz.ntmps146
  go_wp2_with (go_at_call 95; refine (HM.out _).mono ?_; rintro r w1 ⟨rfl, hb1⟩)
  go_ret
  exact ⟨rfl, ((Below.refl _ _).alloc (Nat.le_refl _) _).trans (hb1.mono (by simp))⟩

set_option maxRecDepth 100000 in
set_option maxHeartbeats 2000000 in
theorem indexFunc_walk (l : List Pt) (ad : Option Addr) (cap : Nat) (h64 : ∀ p, p ∈ l → pt64 p) (hlen : l.length ≤ 4294967296) (w : World) (hc : PCells w ad l) :
    Calls Tryz.prog 145 #[.slice ad l.length cap, .func (.func 146) #[] #[]] w fun r w' => ∃ i : Int, r = .returned (.int .i64 i) ∧ Below w.heap.size w w' ∧ decide (i ≥ 0) = !(l.all ptOK) := by
  have HC := Lib.hid hc
  have H64 := Lib.hid h64
  clear hc h64
  go_enter Tryz.func145, Tryz.ntmps145
  go_wp2
  go_loopw [8] (fun i wr => ∃ n : Nat, n ≤ l.length ∧ i = .int .i64 n ∧ Hid ((l.take n).all ptOK = true) ∧ Below w.heap.size w wr) (fun i _ => l.length - (intOf i).toNat)
  case atStart => exact ⟨0, Nat.zero_le _, rfl, by simp [Hid], Below.refl _ _⟩
  case round =>
    obtain ⟨n, hn, rfl, HO, hbw⟩ := hrel
    by_cases hlt : n < l.length
    · obtain ⟨bb, off, rfl, hbb, hc⟩ := HC.out (by omega)
      have hcx : wr.cell? ⟨bb, off + n * 2, none⟩ = some (.float .f64 (l.getD n (0, 0)).1) := (hbw.cell (p := ⟨bb, off + n * 2, none⟩) hbb).trans (hc n hlt).1
      have hcy : wr.cell? ⟨bb, off + n * 2 + 1, none⟩ = some (.float .f64 (l.getD n (0, 0)).2) := (hbw.cell (p := ⟨bb, off + n * 2 + 1, none⟩) hbb).trans (hc n hlt).2
      clear hc
      have hm := getD_memP hlt
      have HN := Lib.hid (notmay_walk (l.getD n (0, 0)) (H64.out _ hm))
      have HT := Lib.hid (take_snocP l n hlt)
      have HALL : Hid (ptOK (l.getD n (0, 0)) = false → l.all ptOK = false) := fun h => by
        rw [List.all_eq_false]; exact ⟨_, hm, by rw [h]; simp⟩
      clear hm
      have HON : Hid (ptOK (l.getD n (0, 0)) = true → (l.take (n + 1)).all ptOK = true) := fun h => by
        rw [HT.out, List.all_append, HO.out]; simp only [List.all_cons, List.all_nil, Bool.and_true, Bool.true_and]; exact h
      clear HT
      generalize l.getD n (0, 0) = p at *
      generalize ptOK p = ok at *
      obtain ⟨x, y⟩ := p
      unfold V at HN
      dsimp only at hcx hcy
      cases ok
      · have HF := Lib.hid (HALL.out rfl)
        go_wp2_with (go_at_call 146; refine (HN.out _).mono ?_; rintro r w1 ⟨rfl, hb1⟩)
        go_ret
        refine ⟨n, rfl, hbw.trans (hb1.mono hbw.size), ?_⟩
        rw [HF.out]; simp
      · have HF := Lib.hid (HON.out rfl)
        go_wp2_with (go_at_call 146; refine (HN.out _).mono ?_; rintro r w1 ⟨rfl, hb1⟩)
        go_roundw
        case rel => exact ⟨n + 1, by omega, by rfl, HF, hbw.trans (hb1.mono hbw.size)⟩
        case measure => simp [intOf]; omega
    · have e : n = l.length := by omega
      subst e
      have HF : Hid (l.all ptOK = true) := by
        have := HO.out
        rw [List.take_length] at this; exact this
      go_wp2
      go_ret
      refine ⟨-1, rfl, hbw, ?_⟩
      rw [HF.out]; rfl

/-- what admit.All answers -/
def allCode (l : List Pt) : Int := if 1048576 < l.length then 3 else if l.all ptOK then 0 else 10

set_option maxRecDepth 100000 in
set_option maxHeartbeats 1000000 in
theorem admitAll_walk (l : List Pt) (ad : Option Addr) (cap : Nat) (h64 : ∀ p, p ∈ l → pt64 p) (w : World) (hc : PCells w ad l) :
    Calls Tryz.prog 87 #[.slice ad l.length cap] w fun r w' => ∃ i : Int, r = .returned (.tuple #[.int .i64 i, .int .i64 (allCode l)]) ∧ Below w.heap.size w w' := by
  have HI := Lib.hid (fun h => indexFunc_walk l ad cap h64 h w hc)
  unfold allCode
  clear h64 hc
  by_cases hl : 1048576 < l.length
  · rw [if_pos hl]
    go_enter Tryz.func87, Tryz.ntmps87
    go_wp2
    go_ret2
    exact ⟨0, rfl, Below.refl _ _⟩
  · rw [if_neg hl]
    have HI2 := Lib.hid (HI.out (by omega))
    clear HI
    cases hk : l.all ptOK
    all_goals
      rw [hk] at HI2
      go_enter Tryz.func87, Tryz.ntmps87
      go_wp2_with (go_at_call 145; refine HI2.out.mono ?_; rintro r w1 ⟨i, rfl, hb1, hi⟩; simp only [Bool.not_true, Bool.not_false, decide_eq_true_eq, decide_eq_false_iff_not] at hi)
      go_ret2
      first | exact ⟨⟨_, rfl⟩, hb1⟩ | exact ⟨_, rfl, hb1⟩ | (exfalso; omega)

end Go.Proofs.YtdoaniccefdkaaaGreatDoor

/- slices.Clone of points; mesh.New. -/
namespace Go.Proofs.YtdoaniccefdkaaaGreatDoor
open Go.RowKit Go.Maps Go.WideMaps

theorem infoPt : (Tryz.prog.info? 52).map (fun i => (i.zero, i.size, i.bytes)) = some (some (.agg #[.float .f64 0, .float .f64 0]), 2, 16) := by kernel_rfl

theorem cellsP_get (l : List Pt) (j : Nat) : (cellsP l)[j]? = if j < l.length * 2 then some (.float .f64 (if j % 2 = 0 then (l.getD (j / 2) (0, 0)).1 else (l.getD (j / 2) (0, 0)).2)) else none := by
  split
  · rename_i h
    have := cellsP_at l (j / 2) (by omega)
    split
    · have e : j = j / 2 * 2 := by omega
      conv => lhs; rw [e]
      exact this.1
    · have e : j = j / 2 * 2 + 1 := by omega
      conv => lhs; rw [e]
      exact this.2
  · rename_i h
    rw [List.getElem?_eq_none (by rw [cellsP_len]; omega)]

theorem cellsP_one (l : List Pt) : ∀ u ∈ cellsP l, u.oneCell' = true := by
  intro u hu
  unfold cellsP at hu
  obtain ⟨p, _, hp⟩ := List.mem_flatMap.1 hu
  simp at hp
  rcases hp with rfl | rfl <;> rfl

theorem PCells.cell {w : World} {b off : Nat} {l : List Pt} (h : PCells w (some ⟨b, off, none⟩) l) : ∀ j u, (cellsP l)[j]? = some u → w.cell? ⟨b, off + j, none⟩ = some u := by
  intro j u hu
  rw [cellsP_get] at hu
  split at hu
  · rename_i hj
    obtain ⟨b', off', e, _, hc⟩ := h (by omega)
    cases e
    have := hc (j / 2) (by omega)
    cases hu
    split
    · have e : j = j / 2 * 2 := by omega
      conv => lhs; rw [e]
      exact this.1
    · have e : off + j = off + j / 2 * 2 + 1 := by omega
      conv => lhs; rw [e]
      exact this.2
  · cases hu

set_option maxRecDepth 100000 in
set_option maxHeartbeats 1000000 in
theorem clone_nil (cap : Nat) (w : World) :
    Calls Tryz.prog 88 #[.slice none 0 cap] w fun e w' => e = .returned (.slice none 0 0) ∧ w' = w := by
  have q22 : ∀ (w : World) (a : Option Addr) (n c n' c' : Nat), (binOp .eql 22 (.slice a n c) (.slice none n' c')).run Tryz.prog w = .ok (.bool a.isNone) w := fun w a n c n' c' => Lib.run_eql_slice_nil w _ _ a n c n' c' Tryz.underlying22
  go_enter Tryz.func88, Tryz.ntmps88
  go_wp2
  go_ret
  exact ⟨rfl, rfl⟩

set_option maxRecDepth 100000 in
set_option maxHeartbeats 1000000 in
theorem clone_some (l : List Pt) (a : Addr) (cap : Nat) (hl : l.length ≤ 1048576) (w : World) (hc : ∀ j u, (cellsP l)[j]? = some u → w.cell? (a.add j) = some u) :
    Calls Tryz.prog 88 #[.slice (some a) l.length cap] w fun e w' => ∃ v', e = .returned v' ∧ w'.ownsRow w.heap.size 52 2 v' l.length (cellsP l) ∧ Below w.heap.size w w' := by
  obtain ⟨i0, hi, hz0, hz1, hz2⟩ := info_parts infoPt
  have HC := Lib.hid hc
  clear hc
  have h1 := Lib.hid (cellsP_one l)
  have hlen := Lib.hid (cellsP_len l)
  have q22 : ∀ (w : World) (a : Option Addr) (n c n' c' : Nat), (binOp .eql 22 (.slice a n c) (.slice none n' c')).run Tryz.prog w = .ok (.bool a.isNone) w := fun w a n c n' c' => Lib.run_eql_slice_nil w _ _ a n c n' c' Tryz.underlying22
  go_enter Tryz.func88, Tryz.ntmps88
  go_wp2_with (at_builtin; refine wpList_append_own _ rfl _ _ 22 rfl w.heap.size 52 i0 (.agg #[.float .f64 0, .float .f64 0]) 2 16 Tryz.underlying22 hi hz0 hz1 hz2 rfl (by decide) _ _ _ rfl (World.ownsRow_made w #[] 0 (Nat.le_refl _) (Nat.zero_le _) (by simp)) a l.length cap (cellsP l) rfl ?qc1 ?qc2 ?qc3 ?qc4 ?qc5 ?qc6 ?_)
  case qc1 => exact hlen.out
  case qc2 => intro j u hj; exact Lib.cell?_alloc_some _ (HC.out j u hj)
  case qc3 => exact h1.out
  case qc4 => unfold maxLen; omega
  case qc5 => omega
  case qc6 => simp
  intro v' w1 hown hgrow hnil
  go_wp2
  go_ret
  refine ⟨v', rfl, by simpa using hown, ((Below.refl _ w).alloc (Nat.le_refl _) _).grown hgrow (by simp) (by intro k hk; simp [Value.ownBlock] at hk; omega)⟩

theorem clone_walk (l : List Pt) (ad : Option Addr) (cap : Nat) (hl : l.length ≤ 1048576) (w : World) (hc : PCells w ad l) :
    Calls Tryz.prog 88 #[.slice ad l.length cap] w fun e w' => ∃ v', e = .returned v' ∧ w'.ownsRow w.heap.size 52 2 v' l.length (cellsP l) ∧ Below w.heap.size w w' := by
  cases ad with
  | none =>
    have h0 : l.length = 0 := by
      apply Classical.byContradiction; intro h
      obtain ⟨_, _, e, _⟩ := hc (by omega)
      cases e
    rw [h0]
    refine (clone_nil cap w).mono ?_
    rintro r w' ⟨rfl, rfl⟩
    have : l = [] := List.length_eq_zero_iff.1 h0
    subst this
    exact ⟨_, rfl, World.ownsRow_nil _ _ _ _, Below.refl _ _⟩
  | some a =>
    refine clone_some l a cap hl w ?_
    intro j u hu
    have hj : 0 < l.length := by
      rw [cellsP_get] at hu
      split at hu
      · omega
      · cases hu
    obtain ⟨b, off, e, _⟩ := hc hj
    cases e
    rw [Addr.add_lit]
    exact hc.cell j u hu

end Go.Proofs.YtdoaniccefdkaaaGreatDoor
