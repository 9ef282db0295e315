/- mesh.sorted at pairs; (*Mesh).Border, Edges. No conditions. -/
import Derived.Test.YthookkmgmholcaaGreatDoorZ9
import Derived.Test.YthookkmgmholcaaGreatDoorZA

/- mesh.sorted at pairs: the closures. -/
namespace Go.Proofs.YthookkmgmholcaaGreatDoor
open Go.RowKit

def vP (x : Int × Int) : Value := .agg #[.int .i64 x.1, .int .i64 x.2]

theorem pairKey_walk (x : Int × Int) (w : World) :
    Calls Tryz.prog 107 #[vP x] w fun e w' => e = .returned (vT (x.1, x.2, 0)) ∧ w' = ((w.alloc (.cells #[.int .i64 x.1, .int .i64 x.2] 54)).alloc (.cells #[.int .i64 x.1, .int .i64 x.2, .int .i64 0] 31)) := by
  obtain ⟨a, b⟩ := x
  unfold vP vT
  go_enter Tryz.func107, Tryz.ntmps107
  go_wp2
  go_returns
  exact ⟨rfl, rfl⟩

/-- what the closure of mesh.sorted reads -/
def CmpS2 (w : World) (kb : Nat) (k : Value) (b c : Nat) (x y : Int × Int) : Prop := w.cell? ⟨kb, 0, none⟩ = some k ∧ w.cell? ⟨b, 0, none⟩ = some (.int .i64 x.1) ∧ w.cell? ⟨b, 1, none⟩ = some (.int .i64 x.2)
      ∧ w.cell? ⟨c, 0, none⟩ = some (.int .i64 y.1) ∧ w.cell? ⟨c, 1, none⟩ = some (.int .i64 y.2)
theorem CmpS2.drew {w : World} {kb : Nat} {k : Value} {b c : Nat} {x y : Int × Int} (h : CmpS2 w kb k b c x y) : CmpS2 w.drew kb k b c x y := h
theorem CmpS2.alloc {w : World} {kb : Nat} {k : Value} {b c : Nat} {x y : Int × Int} (h : CmpS2 w kb k b c x y) {o : Obj} : CmpS2 (w.alloc o) kb k b c x y :=
  ⟨Lib.cell?_alloc_some _ h.1, Lib.cell?_alloc_some _ h.2.1, Lib.cell?_alloc_some _ h.2.2.1, Lib.cell?_alloc_some _ h.2.2.2.1, Lib.cell?_alloc_some _ h.2.2.2.2⟩

set_option maxRecDepth 100000 in
set_option maxHeartbeats 8000000 in
theorem pairCmp_walk (kb : Nat) (x y : Int × Int) (w : World) (hk : w.cell? ⟨kb, 0, none⟩ = some (.func (.func 107) #[] #[])) :
    Calls Tryz.prog 139 #[vP x, vP y, .pointer (some ⟨kb, 0, none⟩)] w fun e w' => e = .returned (.int .i64 (cmpT (x.1, x.2, 0) (y.1, y.2, 0))) ∧ Grew w w' := by
  have HX := Lib.hid (pairKey_walk x)
  have HY := Lib.hid (pairKey_walk y)
  have HC := Lib.hid (fun p q => compare_walk p q (x.1, x.2, 0) (y.1, y.2, 0))
  have hkl := World.block_lt_of_cell? _ _ hk
  obtain ⟨x0, x1⟩ := x
  obtain ⟨y0, y1⟩ := y
  unfold vP vT at *
  dsimp only at HX HY HC
  generalize cmpT (x0, x1, 0) (y0, y1, 0) = z at *
  have hB : CmpS2 ((w.alloc (.cells #[.int .i64 x0, .int .i64 x1] 54)).alloc (.cells #[.int .i64 y0, .int .i64 y1] 54)) kb (.func (.func 107) #[] #[]) w.heap.size (w.heap.size + 1) (x0, x1) (y0, y1) := by
    refine ⟨Lib.cell?_alloc_some _ (Lib.cell?_alloc_some _ hk), ?_, ?_, ?_, ?_⟩ <;> simp
  go_enter Tryz.func139, Tryz.ntmps139
  have HB := Lib.hid hB
  clear hB hk
  go_upto_region 1 with fail
  go_cut [6, 7] from 8 to 13 (fun s6 s7 wx => ∃ p q : Nat, s6 = .pointer (some ⟨p, 0, none⟩) ∧ s7 = .pointer (some ⟨q, 0, none⟩) ∧ Hid (CmpC wx p q (x0, x1, 0) (y0, y1, 0)) ∧ Hid (Grew w wx))
  case first =>
    go_region_held3 (fun w' => w'.cell? ⟨kb, 0, none⟩ = some (.func (.func 107) #[] #[]) ∧ w'.cell? ⟨w.heap.size, 0, none⟩ = some (.int .i64 x0) ∧ w'.cell? ⟨w.heap.size, 1, none⟩ = some (.int .i64 x1)
        ∧ w'.cell? ⟨w.heap.size + 1, 0, none⟩ = some (.int .i64 y0) ∧ w'.cell? ⟨w.heap.size + 1, 1, none⟩ = some (.int .i64 y1))
      (first | (change CmpS2 _ kb (.func (.func 107) #[] #[]) w.heap.size (w.heap.size + 1) (x0, x1) (y0, y1); repeat (first | with_reducible exact HB.out | with_reducible apply CmpS2.drew | with_reducible apply CmpS2.alloc)))
      (first
        | (go_at_call 107; (first | (with_reducible refine (HX.out _).mono ?_) | (with_reducible refine (HY.out _).mono ?_)); rintro r w1 ⟨rfl, rfl⟩))
    all_goals
      go_wp2_with fail
      go_meet
      refine ⟨_, _, rfl, rfl, ?_, ?_⟩
      · refine ⟨?_, ?_, ?_, ?_, ?_, ?_⟩ <;> (repeat (first | (refine (World.cell?_alloc_at _ _ _ _ ?_).trans ?_; (focus (simp; done)); rfl) | with_reducible apply Lib.cell?_alloc_some | with_reducible apply cellDrew))
      · unfold Hid
        repeat (first | with_reducible exact Grew.refl _ | with_reducible apply Grew.drewN | with_reducible apply Grew.drew | with_reducible apply Grew.alloc)
  case rest =>
    obtain ⟨p, q, rfl, rfl, HCC, HG⟩ := hcut
    clear HX HY HB
    obtain ⟨p0, p1, p2, q0, q1, q2⟩ := HCC.out
    have HCC2 := Lib.hid (HC.out p q wc.drew p0 p1 p2 q0 q1 q2)
    clear p0 p1 p2 q0 q1 q2
    go_wp2
    go_region_held3 (fun w' => w' = wc.drew) (first | rfl | assumption) (first | (go_at_call 101; refine HCC2.out.mono ?_; rintro r w1 ⟨rfl, rfl⟩))
    go_wp2
    go_ret
    exact ⟨rfl, HG.out.drew⟩

end Go.Proofs.YthookkmgmholcaaGreatDoor

/- mesh.sorted at pairs. -/
namespace Go.Proofs.YthookkmgmholcaaGreatDoor
open Go.RowKit Go.Maps Go.WideMaps Go.Sort

def encP (x : Int × Int) : List Value := [.int .i64 x.1, .int .i64 x.2]
theorem encP_len (x : Int × Int) : (encP x).length = 2 := rfl
theorem encP_one (x : Int × Int) : ∀ v ∈ encP x, v.oneCell' = true := by
  intro v hv
  simp [encP] at hv
  rcases hv with rfl | rfl <;> rfl
def cmpP (x y : Int × Int) : Int := cmpT (x.1, x.2, 0) (y.1, y.2, 0)
theorem ltOf_cmpP (x y : Int × Int) : ltOf cmpP x y = true ↔ ltP x y := by
  have := ltOf_cmpT (x.1, x.2, 0) (y.1, y.2, 0)
  have e : ltOf cmpP x y = ltOf cmpT (x.1, x.2, 0) (y.1, y.2, 0) := rfl
  rw [e, this]
  unfold ltT ltP
  dsimp only
  omega
theorem ltOf_cmpP' (x y : Int × Int) : ltOf cmpP x y = false ↔ ¬ltP x y := by
  rw [← ltOf_cmpP]; simp
theorem swoP : SWO (ltOf cmpP) where
  irrefl x := (ltOf_cmpP' x x).2 (ltP_irr x)
  trans x y z h1 h2 := (ltOf_cmpP x z).2 (ltP_trans x y z ((ltOf_cmpP x y).1 h1) ((ltOf_cmpP y z).1 h2))
  ntrans x y z h1 h2 := by
    rw [ltOf_cmpP'] at *
    unfold ltP at *
    omega

theorem enters_pairCmp : ∀ args w, (callFunc 139 args).run Tryz.prog w = .ok (.enter 139 args) w := enters_of Tryz.func139 (by kernel_rfl) rfl

theorem sortFuncPair {base : Nat} (l : List (Int × Int)) (v : Value) (kb : Nat) (w : World) (h : w.ownsRow base 54 2 v l.length (cellsK encP l)) (hk : w.cell? ⟨kb, 0, none⟩ = some (.func (.func 107) #[] #[])) (hne : v.ownBlock ≠ some kb) (hl : l.length ≤ 4611686018427387900) :
    Calls Tryz.prog 138 #[v, .func (.func 139) #[] #[.pointer (some ⟨kb, 0, none⟩)]] w fun r w' =>
      r = .returned (.tuple #[]) ∧ ∃ l' : List (Int × Int), l'.Perm l ∧ l'.Pairwise (fun x y => ¬ltP y x) ∧ w'.ownsRow base 54 2 v l.length (cellsK encP l') ∧ w.grownBy w' v.ownBlock := by
  rcases h.2 with ⟨rfl, h0⟩ | ⟨g, cap, cur, rfl, hb, hh, hn, hm, hs, ht⟩
  · have hnil : l = [] := List.length_eq_zero_iff.1 h0
    subst hnil
    have hc := AnyF.slices_SortFunc_none (P := Tryz.prog) Tryz.sortPair none 0 (.func (.func 139) #[] #[.pointer (some ⟨kb, 0, none⟩)]) w
    change Calls Tryz.prog 138 _ _ _ at hc
    refine hc.mono ?_
    rintro r w' ⟨rfl, rfl⟩
    exact ⟨rfl, [], List.Perm.refl _, List.Pairwise.nil, h, ⟨rfl, rfl, rfl, Nat.le_refl _, fun _ _ _ => rfl⟩⟩
  · have hkb : kb ≠ g := fun e => hne (by rw [e]; rfl)
    have hkl := World.block_lt_of_cell? _ _ hk
    have hgl : g < w.heap.size := (Array.getElem?_eq_some_iff.1 hh).1
    have hcmp : CmpLays Tryz.prog 139 #[.pointer (some ⟨kb, 0, none⟩)] encP 2 cmpP g 0 l.toArray.size w := by
      intro m os dk _ x y
      refine (pairCmp_walk kb x y _ ?_).mono ?_
      · unfold sortWorldK
        rw [cell?_grow _ _ _ (by show kb < (putRowK _ _ _ _ _ _).heap.size; rw [size_putRowK]; exact hkl), cell?_putRowK_other _ _ _ _ _ _ _ hkb]
        exact hk
      · rintro r w' ⟨he, q, os', hw⟩
        exact ⟨he, q, os', hw⟩
    have hcon := AnyQ.slices_SortFunc (P := Tryz.prog) Tryz.sortPair 2 Tryz.isAgg54 Tryz.sizeOf54 encP encP_len encP_one cmpP swoP 139 #[.pointer (some ⟨kb, 0, none⟩)] g 0 cap l.toArray w enters_pairCmp hcmp (owns_holdsK encP_len h) hgl (by rw [List.size_toArray]; omega)
    change Calls Tryz.prog 138 _ _ _ at hcon
    rw [List.size_toArray] at hcon
    refine hcon.mono ?_
    rintro r w' ⟨rfl, d, n, os, hp, hsd, rfl⟩
    have hds : d.size = l.length := by have := hp.1; simpa using this
    obtain ⟨o1, o2⟩ := sort_back encP_len h d n os hds
    refine ⟨rfl, d.toList, permIn_list hp, ?_, o1, o2⟩
    refine List.Pairwise.imp ?_ (sortedIn_list hds hsd)
    intro x y hxy
    exact fun e => hxy ((ltOf_cmpP y x).2 e)

set_option maxRecDepth 100000 in
set_option maxHeartbeats 1000000 in
theorem sortedPair_walk {base : Nat} (l : List (Int × Int)) (v : Value) (w : World) (h : w.ownsRow base 54 2 v l.length (cellsK encP l)) (hl : l.length ≤ 4611686018427387900) :
    Calls Tryz.prog 106 #[v, .func (.func 107) #[] #[]] w fun r w' =>
      r = .returned v ∧ ∃ l' : List (Int × Int), l'.Perm l ∧ l'.Pairwise (fun x y => ¬ltP y x) ∧ w'.ownsRow base 54 2 v l.length (cellsK encP l') ∧ w.grownBy w' v.ownBlock := by
  have hc := sortFuncPair l v w.heap.size (w.alloc (.cells #[.func (.func 107) #[] #[]] 138)) (h.alloc _) (by rw [World.cell?_alloc_at _ _ _ _ rfl]; rfl) (fun e => by have := (h.lt _ e).2; omega) hl
  have HC := Lib.hid hc
  have HS : Hid (∀ w', (w.alloc (.cells #[.func (.func 107) #[] #[]] 138)).grownBy w' v.ownBlock → w.grownBy w' v.ownBlock) := fun w' hg =>
    ⟨hg.os, hg.tape, hg.output, Nat.le_trans (by simp) hg.size, fun i hi hne => (hg.block i (by simp; omega) hne).trans (((Below.refl _ w).alloc (Nat.le_refl _) _).block i hi)⟩
  clear hc h
  go_enter Tryz.func106, Tryz.ntmps106
  go_wp2_with (go_at_call 138; refine HC.out.mono ?_; rintro r w1 ⟨rfl, l', h1, h2, h3, h4⟩)
  go_ret
  exact ⟨rfl, l', h1, h2, h3, HS.out _ h4⟩

theorem pairs_walk {base : Nat} (l : List (Int × Int)) (v : Value) (w : World) (h : w.ownsRow base 54 2 v l.length (cellsK encP l)) (hl : l.length ≤ 4611686018427387900) :
    Calls Tryz.prog 77 #[v] w fun r w' =>
      r = .returned v ∧ ∃ l' : List (Int × Int), l'.Perm l ∧ l'.Pairwise (fun x y => ¬ltP y x) ∧ w'.ownsRow base 54 2 v l.length (cellsK encP l') ∧ w.grownBy w' v.ownBlock := by
  have HC := Lib.hid (sortedPair_walk l v w h hl)
  clear h
  go_enter Tryz.func77, Tryz.ntmps77
  go_wp2_with (go_at_call 106; refine HC.out.mono ?_; rintro r w1 ⟨rfl, l', h1, h2, h3, h4⟩)
  go_ret
  exact ⟨rfl, l', h1, h2, h3, h4⟩

end Go.Proofs.YthookkmgmholcaaGreatDoor

/- (*Mesh).Border. -/
namespace Go.Proofs.YthookkmgmholcaaGreatDoor
open Go.RowKit Go.Maps Go.WideMaps

theorem infoPair : (Tryz.prog.info? 54).map (fun i => (i.zero, i.size, i.bytes)) = some (some (.agg #[.int .i64 0, .int .i64 0]), 2, 16) := by kernel_rfl

theorem pair_len {f : Int → Int → Option Int} {g : Int × Int → Option (Int × Int)} {n : Nat} {S : List (Int × Int)} {lf : Value → Bool} {L : List (Int × Int)} (hl : n ≤ 1048576) (hS : S.length ≤ n * n) (hm : ∀ y, (∃ x : Int × Int, f x.1 x.2 ≠ none ∧ g x = some y) ↔ y ∈ S) (h : GotG f g lf L) : L.length ≤ 1099511627776 := by
  have h1 := nodup_len L S h.1 fun y hy => by
    obtain ⟨x, a, b, _⟩ := (h.2 y).1 hy
    exact (hm y).1 ⟨x, a, b⟩
  have h3 : n * n ≤ 1048576 * 1048576 := Nat.mul_le_mul hl hl
  omega
theorem bordL_short (ap : Int → Int → Option Int) (n : Nat) : (bordL ap n).length ≤ n * n := Nat.le_trans (List.length_filter_le _ _) (Nat.le_of_eq (idxL_len n))
theorem edgeL_short (ap : Int → Int → Option Int) (n : Nat) : (edgeL ap n).length ≤ n * n := Nat.le_trans (List.length_filter_le _ _) (Nat.le_of_eq (idxL_len n))

/-- what a look-up at an edge in a box reads -/
def RdE (w : World) (mb o ba eb : Nat) (x y : Value) : Prop := w.cell? ⟨mb, o, none⟩ = some (.map (some ba)) ∧ w.cell? ⟨eb, 0, none⟩ = some x ∧ w.cell? ⟨eb, 1, none⟩ = some y
theorem RdE.below {w w' : World} {mb o ba eb : Nat} {x y : Value} (h : RdE w mb o ba eb x y) (hb : Below w.heap.size w w') : RdE w' mb o ba eb x y :=
  ⟨(hb.cell (p := ⟨mb, o, none⟩) (World.block_lt_of_cell? _ _ h.1)).trans h.1, (hb.cell (p := ⟨eb, 0, none⟩) (World.block_lt_of_cell? _ _ h.2.1)).trans h.2.1, (hb.cell (p := ⟨eb, 1, none⟩) (World.block_lt_of_cell? _ _ h.2.2)).trans h.2.2⟩

theorem below_none {w w' : World} (h : Below w.heap.size w w') : w.grownBy w' none := ⟨h.os, h.tape, h.output, h.size, fun i hi _ => h.block i hi⟩

theorem within_i64 {ap : Int → Int → Option Int} {n : Nat} (hw : Within ap n) (hl : n ≤ 1048576) {a b c : Int} (h : ap a b = some c) : i64ok a ∧ i64ok b := by
  have := hw a b (by rw [h]; simp)
  unfold i64ok; omega

set_option maxRecDepth 100000 in
set_option maxHeartbeats 4000000 in
theorem border_walk {w : World} {mb n : Nat} {M : MeshM} {F : Nat → Prop} (h : MeshAt w mb n M F) (hw : Within M.ap M.P.length) (hl : M.P.length ≤ 1048576) :
    Calls Tryz.prog 38 #[.pointer (some ⟨mb, 0, none⟩)] w fun r w' => ∃ v, r = .returned v ∧ w'.ownsRow (w.heap.size + 1) 54 2 v (bordL M.ap M.P.length).length (cellsK encP (bordL M.ap M.P.length)) ∧ Below w.heap.size w w' := by
  obtain ⟨ba, bs, bf, pv, sv, h⟩ := h
  have c1 := h.c1
  have HC1 := Lib.hid h.c1
  have HF := Lib.hid h.apm
  have HBA := Lib.hid (h.flt ba h.fba)
  have HMB := Lib.hid (h.flt mb h.fmb)
  have HW := Lib.hid hw
  have HL := Lib.hid hl
  clear h hw hl
  obtain ⟨i0, hi, hz0, hz1, hz2⟩ := info_parts infoPair
  go_enter Tryz.func38, Tryz.ntmps38
  go_wp2_with (at_range; refine wp_range _ rfl _ 90 rfl 94 3 edgeLaw Tryz.underlying90 ba n _ rfl HF.out ?_; intro w0 hrg0 hg0 hs0)
  go_frame
  have HR0 := Lib.hid hrg0
  have HG0 := Lib.hid hg0
  have HS0 := Lib.hid hs0
  clear hrg0 hg0 hs0 c1
  go_loopw [3] (fun s3 wr => ∃ (L : List (Int × Int)) (lf : Value → Bool) (cnt : Nat), Hid (FRange Tryz.prog wr 94 ba w.heap.size n (edgeV M.ap) lf cnt) ∧ Hid (wr.ownsRow (w.heap.size + 1) 54 2 s3 L.length (cellsK encP L)) ∧ Hid (GotG M.ap (bordG M.ap) lf L) ∧ Hid (Below w.heap.size w wr)) (fun _ wr => wr.rangeLeft ba w.heap.size)
  case atStart =>
    refine ⟨[], _, _, HR0.out, World.ownsRow_nil _ _ _ _, GotG.start (fun a b hab => ?_), ?_⟩
    · rw [edgeV_isSome]; exact Option.isSome_iff_ne_none.2 hab
    · exact (Below.refl _ w).grown HG0.out (Nat.le_refl _) (fun j hj => by cases hj)
  case round =>
    obtain ⟨L, lf, cnt, HR, HO, HGO, HB⟩ := hrel
    go_wp2_with (first | (at_next; refine wp_next _ rfl _ rfl 94 edgeLaw (fun x : Int × Int => kE x.1 x.2) vI ba w.heap.size n (edgeV M.ap) (fun key h => edgeV_ne h) (fun key v h => edgeV_val h) lf cnt rfl HR.out ?_ ?_) | go_in)
    · intro hd
      have HM : Hid (∀ y, y ∈ L ↔ y ∈ bordL M.ap M.P.length) := fun y => (HGO.out.done hd y).trans (bordG_mem HW.out y)
      have HND := Lib.hid HGO.out.1
      clear hd
      have HSO := Lib.hid (pairs_walk L u3 wr HO.out (by have := pair_len HL.out (bordL_short M.ap M.P.length) (bordG_mem HW.out) HGO.out; omega))
      go_wp2_with (go_at_call 77; refine HSO.out.mono ?_; rintro r w2 ⟨rfl, l', h1, h2, h3, h4⟩)
      go_ret
      have e : l' = bordL M.ap M.P.length := pw_unique ltP_irr ltP_trans _ _ (pw_strict ltP_tot l' (h1.nodup_iff.2 HND.out) h2) (bordL_sorted _ _) fun y => h1.mem_iff.trans (HM.out y)
      have el : L.length = (bordL M.ap M.P.length).length := by rw [← e, h1.length_eq]
      refine ⟨_, rfl, ?_, HB.out.grown h4 HB.out.size (fun j hj => by have := (HO.out.lt _ hj).1; omega)⟩
      rw [← el, ← e]
      exact h3
    · intro a b c w1 cnt1 lf1 hlx hfx hl1 hl2 hrg1 hlt1 hg1 hs1 hen
      have HX1 := Lib.hid (edgeV_some hfx)
      have HRG := Lib.hid hrg1
      have HG1 := Lib.hid hg1
      have HLT : Hid (w1.rangeLeft ba w.heap.size < wr.rangeLeft ba w.heap.size) := by unfold Hid; rw [hrg1.left_eq, HR.out.left_eq]; exact hlt1
      have HO1 : Hid (w1.ownsRow (w.heap.size + 1) 54 2 u3 L.length (cellsK encP L)) := HO.out.kept HG1.out (by
        cases hv : u3.ownBlock with
        | none => exact .inl rfl
        | some g => right; intro e; cases e; have := (HO.out.lt _ hv).1; omega)
      have HLX := Lib.hid hlx
      have HL1 := Lib.hid hl1
      have HL2 := Lib.hid hl2
      clear hlx hfx hl1 hl2 hrg1 hlt1 hg1 hs1
      simp only [kE, vI] at hen
      have HLEN := Lib.hid (pair_len HL.out (bordL_short M.ap M.P.length) (bordG_mem HW.out) HGO.out)
      have HI := Lib.hid (within_i64 HW.out HL.out HX1.out)
      have HB1 := Lib.hid (HB.out.grown HG1.out HB.out.size (fun j hj => by cases hj; exact Nat.le_refl _))
      obtain ⟨W, hW⟩ : ∃ W, W = w1.alloc (.cells #[.int .i64 a, .int .i64 b] 94) := ⟨_, rfl⟩
      have HWB : Hid (Below w1.heap.size w1 W) := by rw [hW]; exact (Below.refl _ _).alloc (Nat.le_refl _) _
      have n1 : RdE W mb 1 ba w1.heap.size (.int .i64 a) (.int .i64 b) := by
        refine ⟨?_, ?_, ?_⟩
        · exact (HWB.out.cell (p := ⟨mb, 1, none⟩) (Nat.lt_of_lt_of_le HMB.out HB1.out.size)).trans ((HB1.out.cell (p := ⟨mb, 1, none⟩) HMB.out).trans HC1.out)
        · rw [hW, World.cell?_alloc_at _ _ _ _ rfl]; rfl
        · rw [hW, World.cell?_alloc_at _ _ _ _ rfl]; rfl
      have HT := Lib.hid (turned_walk a b)
      unfold kE at HT
      have HLK := Lib.hid (fun (w2 : World) (hb : Below w1.heap.size w1 w2) => lookE (w := w2) (HRG.out.kept (below_none hb) (by simp) (by simp)).owns HI.out.2 HI.out.1)
      have HW' := Lib.hid hW
      clear hW
      have HBI : Hid ((M.ap b a).isSome = inB M.ap (sw (a, b))) := rfl
      generalize hq : (M.ap b a).isSome = q at *
      have HQ := Lib.hid hq
      clear hq
      go_wp2
      rw [← HW'.out]
      go_region_held3 (fun w' => w'.cell? ⟨mb, 1, none⟩ = some (.map (some ba)) ∧ w'.cell? ⟨w1.heap.size, 0, none⟩ = some (.int .i64 a) ∧ w'.cell? ⟨w1.heap.size, 1, none⟩ = some (.int .i64 b)) (first | assumption | exact n1 | exact n2)
        (first | (go_at_call 76; refine (HT.out _).mono ?_; rintro r w2 ⟨rfl, hb2⟩; have n2 := RdE.below (w := W.drew) n1 hb2; have l2 := HLK.out w2 (HWB.out.drew.trans (hb2.mono HWB.out.size))))
      have HB2 : Hid (Below w1.heap.size w1 w2) := HWB.out.drew.trans (hb2.mono HWB.out.size)
      have n2x := n2.2.1
      have n2y := n2.2.2
      clear n1 n2 l2 hb2 HT HLK hen
      have HR2 : Hid (FRange Tryz.prog w2 94 ba w.heap.size n (edgeV M.ap) lf1 cnt1) := HRG.out.kept (below_none HB2.out) (by simp) (by simp)
      have HO2 : Hid (w2.ownsRow (w.heap.size + 1) 54 2 u3 L.length (cellsK encP L)) := HO1.out.kept (below_none HB2.out) (by cases u3.ownBlock <;> simp)
      cases q
      · have HGA : Hid (GotG M.ap (bordG M.ap) lf1 (L ++ [(a, b)])) := HGO.out.add bordG_inj (x := (a, b)) (by dsimp only; rw [HX1.out]; simp) HLX.out (by unfold bordG; rw [← HBI.out]; rfl) HL1.out HL2.out
        go_wp2_with (first | (at_builtin; refine wpList_append_own _ rfl _ _ 50 rfl (w.heap.size + 1) 54 i0 (.agg #[.int .i64 0, .int .i64 0]) 2 16 Tryz.underlying50 hi hz0 hz1 hz2 rfl (by decide) u3 L.length (cellsK encP L) rfl (HO2.out.alloc _) ⟨w2.heap.size, 0, none⟩ 1 1 (encP (a, b)) rfl ?qc1 ?qc2 ?qc3 ?qc4 ?qc5 ?qc6 ?_) | go_in)
        case qc1 => rfl
        case qc2 => exact cells_new w2 (encP (a, b)) 54
        case qc3 => exact encP_one _
        case qc4 => have := HLEN.out; unfold maxLen; omega
        case qc5 => have := HLEN.out; omega
        case qc6 => have := HB.out.size; have := HG1.out.size; have := HB2.out.size; have := HRG.out.lt; simp; omega
        intro v' w3 hown hgrow hnil
        obtain ⟨f1, f2⟩ := range_round rfl HBA.out (Nat.lt_succ_self _) HB.out HG1.out HRG.out (HB2.out.alloc HB2.out.size _) HO1.out hgrow
        have HF1 := Lib.hid f1
        have HF2 := Lib.hid f2
        have HOW : Hid (w3.ownsRow (w.heap.size + 1) 54 2 v' (L ++ [(a, b)]).length (cellsK encP (L ++ [(a, b)]))) := by
          unfold Hid; rw [cellsK_append, cellsK_one, List.length_append]; exact hown
        clear f1 f2 hown hgrow hnil
        go_wp2
        go_roundw
        case rel => exact ⟨L ++ [(a, b)], lf1, cnt1, HF1.out, HOW.out, HGA, HF2.out⟩
        case measure => rw [HF1.out.left_eq, ← HRG.out.left_eq]; exact HLT.out
      · have HGA : Hid (GotG M.ap (bordG M.ap) lf1 L) := HGO.out.skip (x := (a, b)) (by unfold bordG; rw [← HBI.out]; rfl) HL2.out
        go_wp2
        go_roundw
        case rel => exact ⟨L, lf1, cnt1, HR2.out, HO2.out, HGA, HB1.out.trans (HB2.out.mono HB1.out.size)⟩
        case measure => rw [HR2.out.left_eq, ← HRG.out.left_eq]; exact HLT.out

end Go.Proofs.YthookkmgmholcaaGreatDoor

/- (*Mesh).Edges. -/
namespace Go.Proofs.YthookkmgmholcaaGreatDoor
open Go.RowKit Go.Maps Go.WideMaps

set_option maxRecDepth 100000 in
set_option maxHeartbeats 4000000 in
theorem edges_walk {w : World} {mb n : Nat} {M : MeshM} {F : Nat → Prop} (h : MeshAt w mb n M F) (hw : Within M.ap M.P.length) (hr : Rot M.ap) (hl : M.P.length ≤ 1048576) :
    Calls Tryz.prog 34 #[.pointer (some ⟨mb, 0, none⟩)] w fun r w' => ∃ v, r = .returned v ∧ w'.ownsRow (w.heap.size + 1) 54 2 v (edgeL M.ap M.P.length).length (cellsK encP (edgeL M.ap M.P.length)) ∧ Below w.heap.size w w' := by
  obtain ⟨ba, bs, bf, pv, sv, h⟩ := h
  have c1 := h.c1
  have HC1 := Lib.hid h.c1
  have HF := Lib.hid h.apm
  have HBA := Lib.hid (h.flt ba h.fba)
  have HMB := Lib.hid (h.flt mb h.fmb)
  have HW := Lib.hid hw
  have HRT := Lib.hid hr
  have HL := Lib.hid hl
  clear h hw hl hr
  obtain ⟨i0, hi, hz0, hz1, hz2⟩ := info_parts infoPair
  go_enter Tryz.func34, Tryz.ntmps34
  go_wp2_with (at_range; refine wp_range _ rfl _ 90 rfl 94 3 edgeLaw Tryz.underlying90 ba n _ rfl HF.out ?_; intro w0 hrg0 hg0 hs0)
  go_frame
  have HR0 := Lib.hid hrg0
  have HG0 := Lib.hid hg0
  have HS0 := Lib.hid hs0
  clear hrg0 hg0 hs0 c1
  go_loopw [3] (fun s3 wr => ∃ (L : List (Int × Int)) (lf : Value → Bool) (cnt : Nat), Hid (FRange Tryz.prog wr 94 ba w.heap.size n (edgeV M.ap) lf cnt) ∧ Hid (wr.ownsRow (w.heap.size + 1) 54 2 s3 L.length (cellsK encP L)) ∧ Hid (GotG M.ap (edgeG M.ap) lf L) ∧ Hid (Below w.heap.size w wr)) (fun _ wr => wr.rangeLeft ba w.heap.size)
  case atStart =>
    refine ⟨[], _, _, HR0.out, World.ownsRow_nil _ _ _ _, GotG.start (fun a b hab => ?_), ?_⟩
    · rw [edgeV_isSome]; exact Option.isSome_iff_ne_none.2 hab
    · exact (Below.refl _ w).grown HG0.out (Nat.le_refl _) (fun j hj => by cases hj)
  case round =>
    obtain ⟨L, lf, cnt, HR, HO, HGO, HB⟩ := hrel
    go_wp2_with (first | (at_next; refine wp_next _ rfl _ rfl 94 edgeLaw (fun x : Int × Int => kE x.1 x.2) vI ba w.heap.size n (edgeV M.ap) (fun key h => edgeV_ne h) (fun key v h => edgeV_val h) lf cnt rfl HR.out ?_ ?_) | go_in)
    · intro hd
      have HM : Hid (∀ y, y ∈ L ↔ y ∈ edgeL M.ap M.P.length) := fun y => (HGO.out.done hd y).trans (edgeG_mem HW.out HRT.out y)
      have HND := Lib.hid HGO.out.1
      clear hd
      have HSO := Lib.hid (pairs_walk L u3 wr HO.out (by have := pair_len HL.out (edgeL_short M.ap M.P.length) (edgeG_mem HW.out HRT.out) HGO.out; omega))
      go_wp2_with (go_at_call 77; refine HSO.out.mono ?_; rintro r w2 ⟨rfl, l', h1, h2, h3, h4⟩)
      go_ret
      have e : l' = edgeL M.ap M.P.length := pw_unique ltP_irr ltP_trans _ _ (pw_strict ltP_tot l' (h1.nodup_iff.2 HND.out) h2) (edgeL_sorted _ _) fun y => h1.mem_iff.trans (HM.out y)
      have el : L.length = (edgeL M.ap M.P.length).length := by rw [← e, h1.length_eq]
      refine ⟨_, rfl, ?_, HB.out.grown h4 HB.out.size (fun j hj => by have := (HO.out.lt _ hj).1; omega)⟩
      rw [← el, ← e]
      exact h3
    · intro a b c w1 cnt1 lf1 hlx hfx hl1 hl2 hrg1 hlt1 hg1 hs1 hen
      have HX1 := Lib.hid (edgeV_some hfx)
      have HRG := Lib.hid hrg1
      have HG1 := Lib.hid hg1
      have HLT : Hid (w1.rangeLeft ba w.heap.size < wr.rangeLeft ba w.heap.size) := by unfold Hid; rw [hrg1.left_eq, HR.out.left_eq]; exact hlt1
      have HO1 : Hid (w1.ownsRow (w.heap.size + 1) 54 2 u3 L.length (cellsK encP L)) := HO.out.kept HG1.out (by
        cases hv : u3.ownBlock with
        | none => exact .inl rfl
        | some g => right; intro e; cases e; have := (HO.out.lt _ hv).1; omega)
      have HLX := Lib.hid hlx
      have HL1 := Lib.hid hl1
      have HL2 := Lib.hid hl2
      clear hlx hfx hl1 hl2 hrg1 hlt1 hg1 hs1
      simp only [kE, vI] at hen
      have HLEN := Lib.hid (pair_len HL.out (edgeL_short M.ap M.P.length) (edgeG_mem HW.out HRT.out) HGO.out)
      have HI := Lib.hid (within_i64 HW.out HL.out HX1.out)
      have HB1 := Lib.hid (HB.out.grown HG1.out HB.out.size (fun j hj => by cases hj; exact Nat.le_refl _))
      obtain ⟨W, hW⟩ : ∃ W, W = w1.alloc (.cells #[.int .i64 a, .int .i64 b] 94) := ⟨_, rfl⟩
      have HWB : Hid (Below w1.heap.size w1 W) := by rw [hW]; exact (Below.refl _ _).alloc (Nat.le_refl _) _
      have n1 : RdE W mb 1 ba w1.heap.size (.int .i64 a) (.int .i64 b) := by
        refine ⟨?_, ?_, ?_⟩
        · exact (HWB.out.cell (p := ⟨mb, 1, none⟩) (Nat.lt_of_lt_of_le HMB.out HB1.out.size)).trans ((HB1.out.cell (p := ⟨mb, 1, none⟩) HMB.out).trans HC1.out)
        · rw [hW, World.cell?_alloc_at _ _ _ _ rfl]; rfl
        · rw [hW, World.cell?_alloc_at _ _ _ _ rfl]; rfl
      have HT := Lib.hid (turned_walk a b)
      unfold kE at HT
      have HLK := Lib.hid (fun (w2 : World) (hb : Below w1.heap.size w1 w2) => lookE (w := w2) (HRG.out.kept (below_none hb) (by simp) (by simp)).owns HI.out.2 HI.out.1)
      have HW' := Lib.hid hW
      clear hW
      have HBI : Hid ((M.ap b a).isSome = inB M.ap (sw (a, b))) := rfl
      generalize hq : (M.ap b a).isSome = q at *
      have HQ := Lib.hid hq
      clear hq
      go_wp2
      rw [← HW'.out]
      go_region_held3 (fun w' => w'.cell? ⟨mb, 1, none⟩ = some (.map (some ba)) ∧ w'.cell? ⟨w1.heap.size, 0, none⟩ = some (.int .i64 a) ∧ w'.cell? ⟨w1.heap.size, 1, none⟩ = some (.int .i64 b)) (first | assumption | exact n1 | exact n2)
        (first | (go_at_call 76; refine (HT.out _).mono ?_; rintro r w2 ⟨rfl, hb2⟩; have n2 := RdE.below (w := W.drew) n1 hb2; have l2 := HLK.out w2 (HWB.out.drew.trans (hb2.mono HWB.out.size))))
      have HB2 : Hid (Below w1.heap.size w1 w2) := HWB.out.drew.trans (hb2.mono HWB.out.size)
      have n2x := n2.2.1
      have n2y := n2.2.2
      clear n1 n2 l2 hb2 HT HLK hen
      have HR2 : Hid (FRange Tryz.prog w2 94 ba w.heap.size n (edgeV M.ap) lf1 cnt1) := HRG.out.kept (below_none HB2.out) (by simp) (by simp)
      have HO2 : Hid (w2.ownsRow (w.heap.size + 1) 54 2 u3 L.length (cellsK encP L)) := HO1.out.kept (below_none HB2.out) (by cases u3.ownBlock <;> simp)
      have HOWN := Lib.hid (own_walk a b)
      obtain ⟨u, HU⟩ : ∃ u, Hid (minI a b = u) := ⟨_, rfl⟩
      obtain ⟨v, HV⟩ : ∃ v, Hid (maxI a b = v) := ⟨_, rfl⟩
      rw [HU.out, HV.out] at HOWN
      unfold kE at HOWN
      by_cases q1 : a < b
      · -- from the lesser to the greater
        have HGA : Hid (GotG M.ap (edgeG M.ap) lf1 (L ++ [(u, v)])) := HGO.out.add edgeG_inj (x := (a, b)) (by dsimp only; rw [HX1.out]; simp) HLX.out (by unfold edgeG; rw [if_pos (.inl q1)]; dsimp only; rw [HU.out, HV.out]) HL1.out HL2.out
        go_wp2_with (first
          | (go_at_call 62; refine (HOWN.out _).mono ?_; rintro r w3 ⟨rfl, hb3⟩)
          | (at_builtin; refine wpList_append_own _ rfl _ _ 50 rfl (w.heap.size + 1) 54 i0 (.agg #[.int .i64 0, .int .i64 0]) 2 16 Tryz.underlying50 hi hz0 hz1 hz2 rfl (by decide) u3 L.length (cellsK encP L) rfl (World.ownsRow.alloc (HO2.out.kept (below_none hb3) (by cases u3.ownBlock <;> simp)) _) ⟨w3.heap.size, 0, none⟩ 1 1 (encP (u, v)) rfl ?qc1 ?qc2 ?qc3 ?qc4 ?qc5 ?qc6 ?_)
          | go_in)
        case qc1 => rfl
        case qc2 => exact cells_new w3 (encP (u, v)) 54
        case qc3 => exact encP_one _
        case qc4 => have := HLEN.out; unfold maxLen; omega
        case qc5 => have := HLEN.out; omega
        case qc6 => have := HB.out.size; have := HG1.out.size; have := HB2.out.size; have := hb3.size; have := HRG.out.lt; simp; omega
        intro v' w4 hown hgrow hnil
        obtain ⟨f1, f2⟩ := range_round rfl HBA.out (Nat.lt_succ_self _) HB.out HG1.out HRG.out (Below.alloc (HB2.out.trans (hb3.mono HB2.out.size)) (Nat.le_trans HB2.out.size hb3.size) _) HO1.out hgrow
        have HF1 := Lib.hid f1
        have HF2 := Lib.hid f2
        have HOW : Hid (w4.ownsRow (w.heap.size + 1) 54 2 v' (L ++ [(u, v)]).length (cellsK encP (L ++ [(u, v)]))) := by
          unfold Hid; rw [cellsK_append, cellsK_one, List.length_append]; exact hown
        clear f1 f2 hown hgrow hnil hb3
        go_wp2
        go_roundw
        case rel => exact ⟨L ++ [(u, v)], lf1, cnt1, HF1.out, HOW.out, HGA, HF2.out⟩
        case measure => rw [HF1.out.left_eq, ← HRG.out.left_eq]; exact HLT.out
      · cases q
        · -- the other way, alone
          have HGA : Hid (GotG M.ap (edgeG M.ap) lf1 (L ++ [(u, v)])) := HGO.out.add edgeG_inj (x := (a, b)) (by dsimp only; rw [HX1.out]; simp) HLX.out (by unfold edgeG; rw [if_pos (.inr HBI.out.symm)]; dsimp only; rw [HU.out, HV.out]) HL1.out HL2.out
          go_wp2_with (first
            | (go_at_call 62; refine (HOWN.out _).mono ?_; rintro r w3 ⟨rfl, hb3⟩)
            | (at_builtin; refine wpList_append_own _ rfl _ _ 50 rfl (w.heap.size + 1) 54 i0 (.agg #[.int .i64 0, .int .i64 0]) 2 16 Tryz.underlying50 hi hz0 hz1 hz2 rfl (by decide) u3 L.length (cellsK encP L) rfl (World.ownsRow.alloc (HO2.out.kept (below_none hb3) (by cases u3.ownBlock <;> simp)) _) ⟨w3.heap.size, 0, none⟩ 1 1 (encP (u, v)) rfl ?qc1 ?qc2 ?qc3 ?qc4 ?qc5 ?qc6 ?_)
            | go_in)
          case qc1 => rfl
          case qc2 => exact cells_new w3 (encP (u, v)) 54
          case qc3 => exact encP_one _
          case qc4 => have := HLEN.out; unfold maxLen; omega
          case qc5 => have := HLEN.out; omega
          case qc6 => have := HB.out.size; have := HG1.out.size; have := HB2.out.size; have := hb3.size; have := HRG.out.lt; simp; omega
          intro v' w4 hown hgrow hnil
          obtain ⟨f1, f2⟩ := range_round rfl HBA.out (Nat.lt_succ_self _) HB.out HG1.out HRG.out (Below.alloc (HB2.out.trans (hb3.mono HB2.out.size)) (Nat.le_trans HB2.out.size hb3.size) _) HO1.out hgrow
          have HF1 := Lib.hid f1
          have HF2 := Lib.hid f2
          have HOW : Hid (w4.ownsRow (w.heap.size + 1) 54 2 v' (L ++ [(u, v)]).length (cellsK encP (L ++ [(u, v)]))) := by
            unfold Hid; rw [cellsK_append, cellsK_one, List.length_append]; exact hown
          clear f1 f2 hown hgrow hnil hb3
          go_wp2
          go_roundw
          case rel => exact ⟨L ++ [(u, v)], lf1, cnt1, HF1.out, HOW.out, HGA, HF2.out⟩
          case measure => rw [HF1.out.left_eq, ← HRG.out.left_eq]; exact HLT.out
        · have HGA : Hid (GotG M.ap (edgeG M.ap) lf1 L) := HGO.out.skip (x := (a, b)) (by unfold edgeG; rw [if_neg]; rintro (e | e); exact q1 e; rw [← HBI.out] at e; cases e) HL2.out
          go_wp2
          go_roundw
          case rel => exact ⟨L, lf1, cnt1, HR2.out, HO2.out, HGA, HB1.out.trans (HB2.out.mono HB1.out.size)⟩
          case measure => rw [HR2.out.left_eq, ← HRG.out.left_eq]; exact HLT.out

end Go.Proofs.YthookkmgmholcaaGreatDoor
