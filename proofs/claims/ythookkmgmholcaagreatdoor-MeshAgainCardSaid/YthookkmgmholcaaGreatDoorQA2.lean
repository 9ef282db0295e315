/- trivetlaw15.MeshAgain: the walk. -/
import Derived.Test.YthookkmgmholcaaGreatDoorQC3
import Derived.Test.YthookkmgmholcaaGreatDoorQA1
namespace Go.Proofs.YthookkmgmholcaaGreatDoor
open Go.RowKit Go.Maps Go.WideMaps

set_option maxRecDepth 100000 in
set_option maxHeartbeats 1000000 in
theorem again_big (l : List Pt) (ad : Option Addr) (cap : Nat) (T : List Tri3) (at_ : Option Addr) (capt : Nat) (v : Value) (hb : 100 < l.length ∨ 200 < T.length) (w : World) :
    Calls Tryz.prog 8 #[.slice ad l.length cap, .slice at_ T.length capt, v] w fun r w' => r = .returned (.bool true) ∧ Below w.heap.size w w' := by
  have HW := Lib.hid works_walk
  have wa : Below w.heap.size w w := Below.refl _ _
  by_cases h1 : 100 < l.length
  · have h1z : (100 : Int) < l.length := by omega
    clear hb
    go_enter Tryz.func8, Tryz.ntmps8
    go_wp2_with (go_at_call 36; with_reducible refine (HW.out _).mono ?_; rintro r w1 ⟨rfl, hb1⟩; have wa := wa.trans (hb1.mono wa.size))
    go_ret
    exact ⟨rfl, wa⟩
  · have h2 : 200 < T.length := hb.resolve_left h1
    have h1z : ¬(100 : Int) < l.length := by omega
    have h2z : (200 : Int) < T.length := by omega
    clear hb
    go_enter Tryz.func8, Tryz.ntmps8
    go_wp2_with (go_at_call 36; with_reducible refine (HW.out _).mono ?_; rintro r w1 ⟨rfl, hb1⟩; have wa := wa.trans (hb1.mono wa.size))
    go_ret
    exact ⟨rfl, wa⟩

set_option maxRecDepth 100000 in
set_option maxHeartbeats 1000000 in
theorem again_nil (l : List Pt) (ad : Option Addr) (cap : Nat) (T : List Tri3) (at_ : Option Addr) (capt : Nat) (v : Value) (h1 : l.length ≤ 100) (h2 : T.length ≤ 200) (h64 : ∀ p, p ∈ l → pt64 p) (hk : allCode l ≠ 0) (w : World) (hc : PCells w ad l) :
    Calls Tryz.prog 8 #[.slice ad l.length cap, .slice at_ T.length capt, v] w fun r w' => r = .returned (.bool true) ∧ Below w.heap.size w w' := by
  have HW := Lib.hid works_walk
  have wa : Below w.heap.size w w := Below.refl _ _
  have HN := Lib.hid (fun w1 (hb : Below w.heap.size w w1) => made_nil l ad cap (.slice at_ T.length capt) h64 hk w1 (hc.below hb))
  have h1z : ¬(100 : Int) < l.length := by omega
  have h2z : ¬(200 : Int) < T.length := by omega
  clear h64 hk hc
  go_enter Tryz.func8, Tryz.ntmps8
  go_wp2_with (first
    | (go_at_call 36; with_reducible refine (HW.out _).mono ?_; rintro r w1 ⟨rfl, hb1⟩; have wa := wa.trans (hb1.mono wa.size))
    | (go_at_call 37; with_reducible refine (HN.out _ wa).mono ?_; rintro r w2 ⟨rfl, hb2⟩; have wa := wa.trans (hb2.mono wa.size)))
  go_ret
  exact ⟨rfl, wa⟩

theorem turnL_len (T : List Tri3) (s : Nat) : (turnL T s).length = T.length := by unfold turnL; simp
theorem turnL_at {T : List Tri3} {s k : Nat} (h : k < T.length) : (turnL T s).getD k (0, 0, 0) = rotT ((k + (k + s) % T.length) % 3) (T.getD ((k + s) % T.length) (0, 0, 0)) := by
  unfold turnL
  rw [List.getD_eq_getElem?_getD, List.getElem?_map, List.getElem?_range h]
  rfl

theorem Rd3.grown {w w' : World} {g r : Nat} {x y z : Int} {row : Option Nat} (h : Rd3 w g r x y z) (hg : w.grownBy w' row) (hl : g < w.heap.size) (hne : some g ≠ row) : Rd3 w' g r x y z :=
  ⟨(World.cell?_of_block (hg.block g hl hne)).trans h.1, (World.cell?_of_block (hg.block g hl hne)).trans h.2.1, (World.cell?_of_block (hg.block g hl hne)).trans h.2.2⟩
theorem Rd3.below {w w' : World} {g r : Nat} {x y z : Int} {b : Nat} (h : Rd3 w g r x y z) (hb : Below b w w') (hl : g < b) : Rd3 w' g r x y z :=
  ⟨(hb.cell (p := ⟨g, r * 3, none⟩) hl).trans h.1, (hb.cell (p := ⟨g, r * 3 + 1, none⟩) hl).trans h.2.1, (hb.cell (p := ⟨g, r * 3 + 2, none⟩) hl).trans h.2.2⟩

theorem by_mod {by_ : Int} {n : Nat} (h0 : 0 < n) (h : n ≤ 10000) : wrap64 ((IntKind.u64.wrap by_).tmod (IntKind.u64.wrap (n : Int))) = (((by_ % 18446744073709551616).toNat % n : Nat) : Int) := by
  rw [IntKind.wrap_u64, IntKind.wrap_u64]
  have e2 : (n : Int) % 18446744073709551616 = n := by omega
  have h1 : 0 ≤ by_ % 18446744073709551616 := by omega
  rw [e2]
  generalize by_ % 18446744073709551616 = q at *
  obtain ⟨m, rfl⟩ := Int.eq_ofNat_of_zero_le h1
  have e3 : ((m : Int)).tmod (n : Int) = ((m % n : Nat) : Int) := (Int.ofNat_tmod m n).symm
  rw [e3, Int.toNat_natCast]
  have := Nat.mod_lt m h0
  unfold wrap64; omega
theorem add_mod {k s n : Nat} (h : k + s ≤ 1000000) : (wrap64 ((k : Int) + (s : Int))).tmod (n : Int) = (((k + s) % n : Nat) : Int) := by
  have : wrap64 ((k : Int) + (s : Int)) = ((k + s : Nat) : Int) := by unfold wrap64; omega
  rw [this]; exact (Int.ofNat_tmod _ _).symm

theorem add_mod3 {k r j : Nat} {c : Int} (h : k + r ≤ 1000000) (hj : (k + r) % 3 = j) (hc : c = j) : (wrap64 ((k : Int) + (r : Int))).tmod 3 = c := by
  have e : wrap64 ((k : Int) + (r : Int)) = (k : Int) + (r : Int) := by unfold wrap64; omega
  rw [e, Int.tmod_eq_emod_of_nonneg (by omega)]; omega

set_option maxRecDepth 100000 in
set_option maxHeartbeats 4000000 in
theorem again_main (l : List Pt) (ad : Option Addr) (cap : Nat) (T : List Tri3) (at_ : Option Addr) (capt : Nat) (by_ : Int) (h1 : l.length ≤ 100) (h2 : T.length ≤ 200) (h64 : ∀ p, p ∈ l → pt64 p) (hk : allCode l = 0) (w : World) (hc : PCells w ad l) (hct : TCells w at_ T) :
    Calls Tryz.prog 8 #[.slice ad l.length cap, .slice at_ T.length capt, .int .i64 by_] w fun r w' => r = .returned (.bool true) ∧ Below w.heap.size w w' := by
  have HW := Lib.hid works_walk
  have HMD := Lib.hid (fun w1 (hb : Below w.heap.size w w1) => made_ok l ad cap T at_ capt h64 hk (by omega) (by omega) w1 (hc.below hb) (hct.below hb))
  have h1z : ¬(100 : Int) < l.length := by omega
  have h2z : ¬(200 : Int) < T.length := by omega
  have HS := Lib.hid (madeM_sound l T)
  have HMP := Lib.hid (foldM_P T (emptyM l))
  have H64 := Lib.hid h64
  have HL1 := Lib.hid h1
  have HK := Lib.hid hk
  clear h64 hk hc hct h1 h2
  generalize hM : foldM (emptyM l) T = M at *
  have HP : Hid (M.P = l) := by unfold Hid; rw [HMP.out]; rfl
  have HPL : Hid (M.P.length ≤ 1048576) := by unfold Hid; rw [HP.out]; have := HL1.out; omega
  have HT := Lib.hid (fun wa wb mb n F (h : MB wa wb mb n M F) => tris_mb h HS.out HPL.out)
  have HAG := Lib.hid (again_all HS.out)
  rw [HP.out] at HAG
  have HTL : Hid ((trisL M.ap M.P.length).length ≤ 10000) := by
    have := trisL_short M.ap M.P.length
    have h2 : M.P.length ≤ 100 := by rw [HP.out]; exact HL1.out
    have h3 : M.P.length * M.P.length ≤ 100 * 100 := Nat.mul_le_mul h2 h2
    exact Nat.le_trans this h3
  rw [HP.out] at HTL HT
  clear hM HMP
  obtain ⟨Q, hQ⟩ : ∃ Q, trisL M.ap l.length = Q := ⟨_, rfl⟩
  rw [hQ] at HTL HT HAG
  have HBY := Lib.hid (fun h0 => by_mod (by_ := by_) (n := Q.length) h0 HTL.out)
  have HSL : Hid (0 < Q.length → (by_ % 18446744073709551616).toNat % Q.length < Q.length) := fun h => Nat.mod_lt _ h
  generalize (by_ % 18446744073709551616).toNat % Q.length = sh at *
  obtain ⟨ok, hap⟩ := HAG.out sh
  have HOK := Lib.hid ok
  have HAP := Lib.hid hap
  have HTN := Lib.hid (turnL_len Q sh)
  have HTA := Lib.hid (fun k h => turnL_at (T := Q) (s := sh) (k := k) h)
  clear ok hap HAG
  generalize turnL Q sh = TL at *
  obtain ⟨i0, hi, hz0, hz1, hz2⟩ := info_parts infoTri
  go_enter Tryz.func8, Tryz.ntmps8
  go_wp2_with (first
    | (go_at_call 36; with_reducible refine (HW.out _).mono ?_; rintro r w1 ⟨rfl, hb1⟩)
    | (go_at_call 37; with_reducible refine (HMD.out _ hb1).mono ?_; rintro r w2 ⟨mb, F, rfl, hm2⟩)
    | (go_at_call 23; with_reducible refine (HT.out _ _ _ _ _ hm2).mono ?_; rintro r w3 ⟨ad3, cap3, rfl, hk3, hg3, hm3, hb3⟩))
  have HM3 := Lib.hid hm3
  have HK3 := Lib.hid hk3
  have HB1 := Lib.hid hb1
  clear hm2 hm3 hk3 hg3 hb3 hb1
  go_loopw [9, 10] (fun s9 s10 wr => ∃ k : Nat, k ≤ Q.length ∧ s10 = .int .i64 k ∧ Hid (wr.ownsRow w3.heap.size 32 3 s9 (TL.take k).length (cellsK encT (TL.take k))) ∧ Hid (Below w3.heap.size w3 wr)) (fun _ i _ => Q.length - (intOf i).toNat)
  case atStart => exact ⟨0, Nat.zero_le _, rfl, World.ownsRow_nil _ _ _ _, Below.refl _ _⟩
  case round =>
    obtain ⟨k, hk, rfl, HO, HB⟩ := hrel
    by_cases hlt : k < Q.length
    · have HQ0 : Hid (0 < Q.length) := by unfold Hid; omega
      have hA := HBY.out HQ0.out
      have hu0 : ¬IntKind.u64.wrap (Q.length : Int) = 0 := by rw [IntKind.wrap_u64]; have := HQ0.out; have := HTL.out; omega
      have hs := HSL.out HQ0.out
      have hB : (wrap64 ((k : Int) + (sh : Int))).tmod (Q.length : Int) = (((k + sh) % Q.length : Nat) : Int) := add_mod (by have := HTL.out; omega)
      have HTK := Lib.hid (HTA.out k hlt)
      have hr : (k + sh) % Q.length < Q.length := Nat.mod_lt _ HQ0.out
      generalize (k + sh) % Q.length = r at *
      have hkr : k + r ≤ 1000000 := by have := HTL.out; omega
      have hj3 : (k + r) % 3 = 0 ∨ (k + r) % 3 = 1 ∨ (k + r) % 3 = 2 := by omega
      obtain ⟨g, rfl, hg, q0, q1, q2⟩ := HK3.out.tri hr
      obtain ⟨t, ht⟩ : ∃ t, Q.getD r (0, 0, 0) = t := ⟨_, rfl⟩
      rw [ht] at q0 q1 q2 HTK
      obtain ⟨x, y, z⟩ := t
      have n0 : Rd3 wr g r x y z := Rd3.below ⟨q0, q1, q2⟩ HB.out hg
      have n1 : wr.drew.cell? ⟨g, r * 3, none⟩ = some (.int .i64 x) ∧ wr.drew.cell? ⟨g, r * 3 + 1, none⟩ = some (.int .i64 y) ∧ wr.drew.cell? ⟨g, r * 3 + 2, none⟩ = some (.int .i64 z) := n0
      have n2 : ∀ v, (wr.drew.alloc v).cell? ⟨g, r * 3, none⟩ = some (.int .i64 x) ∧ (wr.drew.alloc v).cell? ⟨g, r * 3 + 1, none⟩ = some (.int .i64 y) ∧ (wr.drew.alloc v).cell? ⟨g, r * 3 + 2, none⟩ = some (.int .i64 z) := fun v =>
        Rd3.below (w := wr.drew) n0 ((Below.refl _ wr.drew).alloc (Nat.le_refl _) v) (Nat.lt_of_lt_of_le hg HB.out.size)
      have HNE : Hid (some g ≠ u9.ownBlock) := fun e => by have := (HO.out.lt _ e.symm).1; omega
      have HTL2 : Hid ((TL.take k).length = k) := by unfold Hid; rw [List.length_take, HTN.out]; omega
      have HX1 : Hid ((TL.take k).length + 1 ≤ maxLen) := by unfold Hid; rw [HTL2.out]; have := HTL.out; unfold maxLen; omega
      have HX2 : Hid (((TL.take k).length + 1) * 24 ≤ 140737488355328) := by unfold Hid; rw [HTL2.out]; have := HTL.out; omega
      have hr1 : (r : Int) < Q.length := by omega
      have hr2 : (0 : Int) ≤ (r : Int) := by omega
      have hr3 : IntKind.i64.wrap (r : Int) = r := wrap_small (r : Int) (by omega) (by have := HTL.out; omega)
      have wr1 : IntKind.i64.wrap 1 = 1 := by decide
      have wr2 : IntKind.i64.wrap 2 = 2 := by decide
      have wr3 : IntKind.i64.wrap 3 = 3 := by decide
      have wr4 : IntKind.i64.wrap 4 = 4 := by decide
      have tm1 : (1 : Int).tmod 3 = 1 := rfl
      have tm2 : (2 : Int).tmod 3 = 2 := rfl
      have tm3 : (3 : Int).tmod 3 = 0 := rfl
      have tm4 : (4 : Int).tmod 3 = 1 := rfl
      clear q0 q1 q2 hs ht n0
      rcases hj3 with hj | hj | hj
      · have hc3 : (wrap64 ((k : Int) + (r : Int))).tmod 3 = 0 := add_mod3 hkr hj rfl
        have HTV : Hid (TL.getD k (0, 0, 0) = (x, y, z)) := by unfold Hid; rw [HTK.out, hj]; rfl
        clear hj hkr
        go_wp2
        rename (∀ (a : Act) (w : World), Code.wp _ _ _ a w → _) => hcA
        have HCA := Lib.hid (fun (_ : Unit) => hcA)
        clear hcA
        rename (∀ (a : Act) (w : World), Code.wp _ _ _ a w → _) => hcB
        have HCB := Lib.hid (fun (_ : Unit) => hcB)
        clear hcB
        repeat (rename (∀ (a : Act) (w : World), Code.wp _ _ _ a w → _) => ha; clear ha)
        go_region_held3 (fun w' => w'.cell? ⟨g, r * 3, none⟩ = some (.int .i64 x) ∧ w'.cell? ⟨g, r * 3 + 1, none⟩ = some (.int .i64 y) ∧ w'.cell? ⟨g, r * 3 + 2, none⟩ = some (.int .i64 z)) (first | (with_reducible exact n1) | (with_reducible exact n2 _) | (exact n3) | (exact n2 _))
          (first
            | (refine step_append_lies _ rfl _ _ 33 rfl w3.heap.size 32 i0 (.agg #[.int .i64 0, .int .i64 0, .int .i64 0]) 3 24 Tryz.underlying33 hi hz0 hz1 hz2 rfl (by decide) u9 (TL.take k).length (cellsK encT (TL.take k)) rfl (World.ownsRow.alloc (w := wr.drew) HO.out _) ⟨wr.heap.size, 0, none⟩ 1 1 (encT (x, y, z)) rfl rfl (cells_new wr.drew (encT (x, y, z)) 32) (encT_one _) (by decide) HX1.out HX2.out (by have := HB.out.size; simp; omega) _ rfl ?_
               intro g9 cap9 W9 hown9 hg9 hloc9 hlt9
               have n3 := (Rd3.grown (n2 _) hg9 (by have := HB.out.size; simp; omega) HNE.out)))
        all_goals
          have hcA := HCA.out ()
          have hcB := HCB.out ()
          have HO9 : Hid (W9.ownsRow w3.heap.size 32 3 (.slice (some ⟨g9, 0, none⟩) ((TL.take k).length + 1) cap9) (TL.take (k + 1)).length (cellsK encT (TL.take (k + 1)))) := by
            unfold Hid; rw [take_snocT TL k (by rw [HTN.out]; exact hlt), HTV.out, cellsK_append, cellsK_one, List.length_append]; exact hown9
          have HB9 : Hid (Below w3.heap.size w3 W9) := (HB.out.drew.alloc HB.out.size _).grown hg9 (by have := HB.out.size; simp; omega) (fun j hj => (HO.out.lt _ hj).1)
          clear hown9 hg9 n1 n2 n3
          go_wp2
          go_roundw
          case rel => exact ⟨k + 1, by omega, (by rw [wrapS (by have := HTL.out; omega)]), (by have h := HO9.out; rw [show (TL.take k).length = min k TL.length from List.length_take] at h; exact h), HB9.out⟩
          case measure => rw [wrapS (by have := HTL.out; omega)]; simp only [intOf]; omega
      · have hc3 : (wrap64 ((k : Int) + (r : Int))).tmod 3 = 1 := add_mod3 hkr hj rfl
        have HTV : Hid (TL.getD k (0, 0, 0) = (y, z, x)) := by unfold Hid; rw [HTK.out, hj]; rfl
        clear hj hkr
        go_wp2
        rename (∀ (a : Act) (w : World), Code.wp _ _ _ a w → _) => hcA
        have HCA := Lib.hid (fun (_ : Unit) => hcA)
        clear hcA
        rename (∀ (a : Act) (w : World), Code.wp _ _ _ a w → _) => hcB
        have HCB := Lib.hid (fun (_ : Unit) => hcB)
        clear hcB
        repeat (rename (∀ (a : Act) (w : World), Code.wp _ _ _ a w → _) => ha; clear ha)
        go_region_held3 (fun w' => w'.cell? ⟨g, r * 3, none⟩ = some (.int .i64 x) ∧ w'.cell? ⟨g, r * 3 + 1, none⟩ = some (.int .i64 y) ∧ w'.cell? ⟨g, r * 3 + 2, none⟩ = some (.int .i64 z)) (first | (with_reducible exact n1) | (with_reducible exact n2 _) | (exact n3) | (exact n2 _))
          (first
            | (refine step_append_lies _ rfl _ _ 33 rfl w3.heap.size 32 i0 (.agg #[.int .i64 0, .int .i64 0, .int .i64 0]) 3 24 Tryz.underlying33 hi hz0 hz1 hz2 rfl (by decide) u9 (TL.take k).length (cellsK encT (TL.take k)) rfl (World.ownsRow.alloc (w := wr.drew) HO.out _) ⟨wr.heap.size, 0, none⟩ 1 1 (encT (y, z, x)) rfl rfl (cells_new wr.drew (encT (y, z, x)) 32) (encT_one _) (by decide) HX1.out HX2.out (by have := HB.out.size; simp; omega) _ rfl ?_
               intro g9 cap9 W9 hown9 hg9 hloc9 hlt9
               have n3 := (Rd3.grown (n2 _) hg9 (by have := HB.out.size; simp; omega) HNE.out)))
        all_goals
          have hcA := HCA.out ()
          have hcB := HCB.out ()
          have HO9 : Hid (W9.ownsRow w3.heap.size 32 3 (.slice (some ⟨g9, 0, none⟩) ((TL.take k).length + 1) cap9) (TL.take (k + 1)).length (cellsK encT (TL.take (k + 1)))) := by
            unfold Hid; rw [take_snocT TL k (by rw [HTN.out]; exact hlt), HTV.out, cellsK_append, cellsK_one, List.length_append]; exact hown9
          have HB9 : Hid (Below w3.heap.size w3 W9) := (HB.out.drew.alloc HB.out.size _).grown hg9 (by have := HB.out.size; simp; omega) (fun j hj => (HO.out.lt _ hj).1)
          clear hown9 hg9 n1 n2 n3
          go_wp2
          go_roundw
          case rel => exact ⟨k + 1, by omega, (by rw [wrapS (by have := HTL.out; omega)]), (by have h := HO9.out; rw [show (TL.take k).length = min k TL.length from List.length_take] at h; exact h), HB9.out⟩
          case measure => rw [wrapS (by have := HTL.out; omega)]; simp only [intOf]; omega
      · have hc3 : (wrap64 ((k : Int) + (r : Int))).tmod 3 = 2 := add_mod3 hkr hj rfl
        have HTV : Hid (TL.getD k (0, 0, 0) = (z, x, y)) := by unfold Hid; rw [HTK.out, hj]; rfl
        clear hj hkr
        go_wp2
        rename (∀ (a : Act) (w : World), Code.wp _ _ _ a w → _) => hcA
        have HCA := Lib.hid (fun (_ : Unit) => hcA)
        clear hcA
        rename (∀ (a : Act) (w : World), Code.wp _ _ _ a w → _) => hcB
        have HCB := Lib.hid (fun (_ : Unit) => hcB)
        clear hcB
        repeat (rename (∀ (a : Act) (w : World), Code.wp _ _ _ a w → _) => ha; clear ha)
        go_region_held3 (fun w' => w'.cell? ⟨g, r * 3, none⟩ = some (.int .i64 x) ∧ w'.cell? ⟨g, r * 3 + 1, none⟩ = some (.int .i64 y) ∧ w'.cell? ⟨g, r * 3 + 2, none⟩ = some (.int .i64 z)) (first | (with_reducible exact n1) | (with_reducible exact n2 _) | (exact n3) | (exact n2 _))
          (first
            | (refine step_append_lies _ rfl _ _ 33 rfl w3.heap.size 32 i0 (.agg #[.int .i64 0, .int .i64 0, .int .i64 0]) 3 24 Tryz.underlying33 hi hz0 hz1 hz2 rfl (by decide) u9 (TL.take k).length (cellsK encT (TL.take k)) rfl (World.ownsRow.alloc (w := wr.drew) HO.out _) ⟨wr.heap.size, 0, none⟩ 1 1 (encT (z, x, y)) rfl rfl (cells_new wr.drew (encT (z, x, y)) 32) (encT_one _) (by decide) HX1.out HX2.out (by have := HB.out.size; simp; omega) _ rfl ?_
               intro g9 cap9 W9 hown9 hg9 hloc9 hlt9
               have n3 := (Rd3.grown (n2 _) hg9 (by have := HB.out.size; simp; omega) HNE.out)))
        all_goals
          have hcA := HCA.out ()
          have hcB := HCB.out ()
          have HO9 : Hid (W9.ownsRow w3.heap.size 32 3 (.slice (some ⟨g9, 0, none⟩) ((TL.take k).length + 1) cap9) (TL.take (k + 1)).length (cellsK encT (TL.take (k + 1)))) := by
            unfold Hid; rw [take_snocT TL k (by rw [HTN.out]; exact hlt), HTV.out, cellsK_append, cellsK_one, List.length_append]; exact hown9
          have HB9 : Hid (Below w3.heap.size w3 W9) := (HB.out.drew.alloc HB.out.size _).grown hg9 (by have := HB.out.size; simp; omega) (fun j hj => (HO.out.lt _ hj).1)
          clear hown9 hg9 n1 n2 n3
          go_wp2
          go_roundw
          case rel => exact ⟨k + 1, by omega, (by rw [wrapS (by have := HTL.out; omega)]), (by have h := HO9.out; rw [show (TL.take k).length = min k TL.length from List.length_take] at h; exact h), HB9.out⟩
          case measure => rw [wrapS (by have := HTL.out; omega)]; simp only [intOf]; omega
    · have e : k = Q.length := by omega
      subst e
      have hO := HO.out
      have e2 : TL.take Q.length = TL := by rw [← HTN.out]; exact List.take_length
      rw [e2] at hO
      obtain ⟨adL, capL, rfl, hkL, _⟩ := owns_kcells hO
      have HKL := Lib.hid hkL
      clear hO e2 hkL HO hlt hk
      have HMW := Lib.hid (HM3.out.below HB.out)
      have HKW := Lib.hid (HK3.out.below HB.out)
      have HPT : Hid (Calls Tryz.prog 41 #[.pointer (some ⟨mb, 0, none⟩)] wr fun r w' => ∃ ad cap, r = .returned (.slice ad l.length cap) ∧ PCells w' ad l ∧ Below wr.heap.size wr w') := by
        have := points_mb HMW.out HPL.out
        rw [HP.out] at this
        exact this
      have HOF := Lib.hid (fun ad cap wb (hp : PCells wb ad l) (hb : Below wr.heap.size wr wb) => of_ok l ad cap TL adL capL H64.out HK.out (by have := HL1.out; omega) (by have := HTL.out; rw [HTN.out]; omega) HOK.out wb hp (HKL.out.below hb))
      have HS2 := Lib.hid (madeM_sound l TL)
      have HP2 : Hid ((foldM (emptyM l) TL).P = l) := by unfold Hid; rw [foldM_P]; rfl
      generalize foldM (emptyM l) TL = M2 at *
      have HC1 : Hid (M.cnt = (Q.length : Int)) := by unfold Hid; rw [sound_cnt HS.out, HP.out, hQ]
      have HC2 : Hid (M2.cnt = (Q.length : Int)) := by unfold Hid; rw [sound_cnt HS2.out, HP2.out, HAP.out, hQ]
      have HCa : Hid (∀ wa wb mb n F, MB wa wb mb n M2 F → Calls Tryz.prog 39 #[.pointer (some ⟨mb, 0, none⟩)] wb fun r w' => r = .returned (.int .i64 Q.length) ∧ w' = wb) := fun wa wb mb n F h =>
        (count_mb h).mono fun r w' ⟨he, hw⟩ => ⟨by rw [he, HC2.out], hw⟩
      have HCm : Hid (∀ wa wb mb n F, MB wa wb mb n M F → Calls Tryz.prog 39 #[.pointer (some ⟨mb, 0, none⟩)] wb fun r w' => r = .returned (.int .i64 Q.length) ∧ w' = wb) := fun wa wb mb n F h =>
        (count_mb h).mono fun r w' ⟨he, hw⟩ => ⟨by rw [he, HC1.out], hw⟩
      have HPL2 : Hid (M2.P.length ≤ 1048576) := by unfold Hid; rw [HP2.out]; have := HL1.out; omega
      have HTa := Lib.hid (fun wa wb mb n F (h : MB wa wb mb n M2 F) => tris_mb h HS2.out HPL2.out)
      rw [HP2.out, HAP.out, hQ] at HTa
      have HEa := Lib.hid (fun wa wb mb n F (h : MB wa wb mb n M2 F) => edges_mb h HS2.out HPL2.out)
      rw [HP2.out, HAP.out] at HEa
      have HBa := Lib.hid (fun wa wb mb n F (h : MB wa wb mb n M2 F) => border_mb h HS2.out HPL2.out)
      rw [HP2.out, HAP.out] at HBa
      have HEm := Lib.hid (fun wa wb mb n F (h : MB wa wb mb n M F) => edges_mb h HS.out HPL.out)
      rw [HP.out] at HEm
      have HBm := Lib.hid (fun wa wb mb n F (h : MB wa wb mb n M F) => border_mb h HS.out HPL.out)
      rw [HP.out] at HBm
      have HEL : Hid ((edgeL M.ap l.length).length ≤ 10000) := by
        have := edgeL_short M.ap l.length
        have h3 : l.length * l.length ≤ 100 * 100 := Nat.mul_le_mul HL1.out HL1.out
        exact Nat.le_trans this h3
      have HBL : Hid ((bordL M.ap l.length).length ≤ 10000) := by
        have := bordL_short M.ap l.length
        have h3 : l.length * l.length ≤ 100 * 100 := Nat.mul_le_mul HL1.out HL1.out
        exact Nat.le_trans this h3
      clear HC1 HC2 hQ
      generalize edgeL M.ap l.length = E at *
      generalize bordL M.ap l.length = B at *
      have HST := Lib.hid (fun ad cap wb (h1 : KCells encT wb ad Q) (h2 : KCells encT wb ad3 Q) => sameTris_walk Q ad ad3 cap cap3 wb h1 h2 (by have := HTL.out; omega))
      have HSE := Lib.hid (fun ad bd ca cb wb (h1 : KCells encP wb ad E) (h2 : KCells encP wb bd E) => samePairs_walk E ad bd ca cb wb h1 h2 (by have := HEL.out; omega))
      have HSB := Lib.hid (fun ad bd ca cb wb (h1 : KCells encP wb ad B) (h2 : KCells encP wb bd B) => samePairs_walk B ad bd ca cb wb h1 h2 (by have := HBL.out; omega))
      go_wp2_with (first
        | (go_at_call 41; with_reducible refine HPT.out.mono ?_; rintro r w4 ⟨ad4, cap4, rfl, hp4, hb4⟩)
        | (go_at_call 14; with_reducible refine (HOF.out _ _ _ hp4 hb4).mono ?_; rintro r w5 ⟨mb2, F2, rfl, hm5⟩; have hA5 := (HMW.out.below hb4).below hm5.keep; have k5 := (HKW.out.below hb4).below hm5.keep)
        | (go_at_call 39; with_reducible refine (HCa.out _ _ _ _ _ hm5).mono ?_; rintro r w6 ⟨rfl, rfl⟩)
        | (go_at_call 39; with_reducible refine (HCm.out _ _ _ _ _ hA5).mono ?_; rintro r w6 ⟨rfl, rfl⟩)
        | (go_at_call 23; with_reducible refine (HTa.out _ _ _ _ _ hm5).mono ?_; rintro r w6 ⟨ad6, cap6, rfl, hk6, _, hm6, hb6⟩; have hA6 := hA5.below hb6; have k6 := k5.below hb6)
        | (go_at_call 25; with_reducible refine (HST.out _ _ _ hk6 k6).mono ?_; rintro r w7 ⟨rfl, hb7⟩; have hA7 := hA6.below hb7; have hm7 := hm6.below hb7)
        | (go_at_call 34; with_reducible refine (HEa.out _ _ _ _ _ hm7).mono ?_; rintro r w8 ⟨ad8, cap8, rfl, hk8, _, hm8, hb8⟩; have hA8 := hA7.below hb8)
        | (go_at_call 34; with_reducible refine (HEm.out _ _ _ _ _ hA8).mono ?_; rintro r w9 ⟨ad9, cap9, rfl, hk9, _, hA9, hb9⟩; have hm9 := hm8.below hb9; have k9 := hk8.below hb9)
        | (go_at_call 42; with_reducible refine (HSE.out _ _ _ _ _ k9 hk9).mono ?_; rintro r w10 ⟨rfl, hb10⟩; have hA10 := hA9.below hb10; have hm10 := hm9.below hb10)
        | (go_at_call 38; with_reducible refine (HBa.out _ _ _ _ _ hm10).mono ?_; rintro r w11 ⟨ad11, cap11, rfl, hk11, _, hm11, hb11⟩; have hA11 := hA10.below hb11)
        | (go_at_call 38; with_reducible refine (HBm.out _ _ _ _ _ hA11).mono ?_; rintro r w12 ⟨ad12, cap12, rfl, hk12, _, hA12, hb12⟩; have k12 := hk11.below hb12)
        | (go_at_call 42; with_reducible refine (HSB.out _ _ _ _ _ k12 hk12).mono ?_; rintro r w13 ⟨rfl, hb13⟩; have hA13 := hA12.below hb13))
      go_ret
      exact ⟨rfl, HB1.out.trans (hA13.keep.mono HB1.out.size)⟩

end Go.Proofs.YthookkmgmholcaaGreatDoor
