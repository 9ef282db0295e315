/- (*mesh.Mesh).Copy. -/
import Derived.Test.YthookkmgmholcaaGreatDoorQBA
namespace Go.Proofs.YthookkmgmholcaaGreatDoor
open Go.RowKit Go.Maps Go.WideMaps

theorem below_drop {w w' : World} {o : Obj} (h : Below (w.alloc o).heap.size (w.alloc o) w') : Below w.heap.size w w' :=
  ((Below.refl w.heap.size w).alloc (Nat.le_refl _) o).trans (h.mono (by simp))

theorem cell_stays {w w' : World} {p : Addr} {v : Value} (h : w.cell? p = some v) (hb : Below w.heap.size w w') : w'.cell? p = some v :=
  (hb.cell (p := p) (World.block_lt_of_cell? _ _ h)).trans h
/-- the mesh's cells, as the walk reads them -/
def Src (w w' : World) (mb : Nat) (p a c f : Value) : Prop :=
  w'.cell? ⟨mb, 0, none⟩ = some p ∧ w'.cell? ⟨mb, 1, none⟩ = some a ∧ w'.cell? ⟨mb, 3, none⟩ = some c ∧ w'.cell? ⟨mb, 4, none⟩ = some f ∧ Below w.heap.size w w'
theorem Src.below {w w1 w2 : World} {mb : Nat} {p a c f : Value} (h : Src w w1 mb p a c f) (hmb : mb < w.heap.size) (hb : Below w1.heap.size w1 w2) : Src w w2 mb p a c f := by
  have hs := h.2.2.2.2.size
  exact ⟨(hb.cell (p := ⟨mb, 0, none⟩) (by dsimp only; omega)).trans h.1, (hb.cell (p := ⟨mb, 1, none⟩) (by dsimp only; omega)).trans h.2.1, (hb.cell (p := ⟨mb, 3, none⟩) (by dsimp only; omega)).trans h.2.2.1, (hb.cell (p := ⟨mb, 4, none⟩) (by dsimp only; omega)).trans h.2.2.2.1, h.2.2.2.2.trans (hb.mono hs)⟩
theorem Src.alloc {w w1 : World} {mb : Nat} {p a c f : Value} (h : Src w w1 mb p a c f) (hmb : mb < w.heap.size) (o : Obj) : Src w (w1.alloc o) mb p a c f :=
  h.below hmb ((Below.refl _ _).alloc (Nat.le_refl _) o)

theorem head_mk {w w1 w2 w3 Wb A : World} {n b2 b3 cap2 : Nat} {ad2 : Option Addr} {M : MeshM} (B1 : Below w.heap.size w w1) (c12 : Below w1.heap.size w1 w2) (c23 : Below w2.heap.size w2 w3) (c3b : Below w3.heap.size w3 Wb)
    (H1 : w1.ownsRow w.heap.size 25 2 (.slice ad2 M.P.length cap2) M.P.length (cellsP M.P)) (H2 : FMap Tryz.prog w2 94 b2 n (edgeV M.ap)) (H3 : FMap Tryz.prog w3 94 b3 n (edgeV M.fx))
    (lo2 : w1.heap.size ≤ b2) (lo3 : w2.heap.size ≤ b3) (HA : w.heap.size ≤ A.heap.size) (hA : Below (A.alloc (.map #[] 0)).heap.size (A.alloc (.map #[] 0)) Wb) (n2 : A.heap.size ≠ b2) (n3 : A.heap.size ≠ b3) :
    Head w (Wb.alloc (.cells #[.slice ad2 M.P.length cap2, .map (some b2), .map (some A.heap.size), .int .i64 M.cnt, .map (some b3)] 93)) Wb.heap.size b2 A.heap.size b3 n (.slice ad2 M.P.length cap2) M := by
  have e2 := H2.lt
  have e3 := H3.lt
  have z1 := B1.size
  have z2 := c12.size
  have z3 := c23.size
  have z4 := c3b.size
  have zA : A.heap.size < Wb.heap.size := by have := hA.size; simp at this; omega
  have c2b := c23.trans (c3b.mono z3)
  have c1b := c12.trans (c2b.mono z2)
  have cal := (Below.refl Wb.heap.size Wb).alloc (Nat.le_refl _) (.cells #[.slice ad2 M.P.length cap2, .map (some b2), .map (some A.heap.size), .int .i64 M.cnt, .map (some b3)] 93)
  have hp : ∀ g, (Value.slice ad2 M.P.length cap2).ownBlock = some g → w.heap.size ≤ g ∧ g < w1.heap.size := fun g hg => H1.lt g hg
  have hown := ownsRow_same H1 (fun g hg => ((c1b.trans (cal.mono (by omega))).block g (hp g hg).2))
  have hmap : FMap Tryz.prog Wb 3 A.heap.size 0 (fun _ => none) := (FMap.made Tryz.prog A 3).same (hA.block _ (by simp))
  have hmap' := hmap.same (cal.block _ zA)
  have hcell : ∀ i, (Wb.alloc (.cells #[.slice ad2 M.P.length cap2, .map (some b2), .map (some A.heap.size), .int .i64 M.cnt, .map (some b3)] 93)).cell? ⟨Wb.heap.size, i, none⟩ = #[Value.slice ad2 M.P.length cap2, .map (some b2), .map (some A.heap.size), .int .i64 M.cnt, .map (some b3)][i]? := by
    intro i; rw [World.cell?_alloc_at _ _ _ _ rfl]
  obtain ⟨es, clk, hm2⟩ := hmap'.isMap
  refine ⟨hcell 0, hcell 1, hcell 2, hcell 3, hcell 4, ?_, hown, (H2.same (c2b.block _ e2)).same (cal.block _ (by omega)), (H3.same (c3b.block _ e3)).same (cal.block _ (by omega)), by rw [intV_none]; exact hmap', fun e => n2 e.symm, by omega, n3, ?_, ?_, by omega, ⟨by omega, by omega, HA, by omega⟩, by simp, (B1.trans (c1b.mono z1)).trans (cal.mono (by omega))⟩
  · intro i
    unfold World.frozen?
    rw [heap_alloc_new]; simp
  · intro e
    have := hp _ e
    omega
  · intro e
    rcases hown.2 with ⟨h1, _⟩ | ⟨g', cp, cur, h1, _, hh, _⟩
    · rw [h1] at e; simp [Value.ownBlock] at e
    · rw [h1] at e; simp [Value.ownBlock] at e; subst e; rw [hm2] at hh; cases hh

/-- what the range over the spokes keeps -/
def CInv (Wh wr : World) (bs X n : Nat) (sv : Int → Option Value) (sp : Int → List Int) (lf : Value → Bool) (cnt : Nat) : Prop :=
  ∃ n2 sv2, FRange Tryz.prog wr 3 bs Wh.heap.size n (intV sv) lf cnt ∧ FMap Tryz.prog wr 3 X n2 (intV sv2) ∧ n2 + cnt ≤ n ∧ CRows wr (Wh.heap.size + 1) lf sv sv2 sp ∧ Stay (fun i => i = X) Wh wr ∧ Wh.heap.size < wr.heap.size

theorem CInv.start {w Wh w0 : World} {bs n MB b2 X b3 : Nat} {pv2 : Value} {sv : Int → Option Value} {M : MeshM} {cnt : Nat} (hd : Head w Wh MB b2 X b3 n pv2 M)
    (hr : FRange Tryz.prog w0 3 bs Wh.heap.size n (intV sv) (fun x => (intV sv x).isSome) cnt) (hg : Wh.grownBy w0 none) (hs : w0.heap.size = Wh.heap.size + 1) : CInv Wh w0 bs X n sv M.sp (fun x => (intV sv x).isSome) cnt :=
  ⟨0, fun _ => none, hr, hd.spm.kept hg (by simp), by have := hr.cnt_le; omega, CRows.start (fun a ha => by rw [intV_at]; exact Option.isSome_iff_ne_none.2 ha), Stay.of_grown hg (fun j hj => by cases hj), by omega⟩

theorem CInv.round {w Wh wr w1 W W' : World} {mb ba bs bf n MB b2 X b3 : Nat} {pv pv2 v v' : Value} {sv : Int → Option Value} {M : MeshM} {F : Nat → Prop} {cnt cnt1 : Nat} {lf lf1 : Value → Bool} {a : Int} (h : MeshParts w mb ba bs bf n pv sv M F) (hd : Head w Wh MB b2 X b3 n pv2 M) (hn : n ≤ 1000000000)
    (hi : CInv Wh wr bs X n sv M.sp lf cnt) (hsv : sv a = some v) (hl2 : ∀ y, y ≠ vI a → lf1 y = lf y) (hrg : FRange Tryz.prog w1 3 bs Wh.heap.size n (intV sv) lf1 cnt1) (hlt : cnt1 < cnt) (hg1 : wr.grownBy w1 (some Wh.heap.size)) (hs1 : w1.heap.size = wr.heap.size)
    (hW : W.heap = w1.heap) (hb : Below W.heap.size W W') (hWos : W.os = w1.os ∧ W.tape = w1.tape ∧ W.output = w1.output) (hv' : W'.ownsInts W.heap.size 3 .i64 v' (M.sp a)) :
    ∃ W2, (Instr.mapUpdate 91 (.map (some X)) (vI a) v').run Tryz.prog W' = .ok () W2 ∧ CInv Wh W2 bs X n sv M.sp lf1 cnt1 ∧ W'.grownBy W2 (some X) := by
  obtain ⟨n2, sv2, hr, hf, hle, hcr, hst, hsz⟩ := hi
  have hXlt := hd.spm.lt
  have hXr : X ≠ Wh.heap.size := by omega
  have hbs : bs < w.heap.size := h.flt _ h.fbs
  have hlo := hd.lo
  have hbX : bs ≠ X := by omega
  have hsW : W.heap.size = w1.heap.size := by rw [hW]
  have g1 : w1.grownBy W' none := ⟨hb.os.trans hWos.1, hb.tape.trans hWos.2.1, hb.output.trans hWos.2.2, by have := hb.size; omega, fun i hi _ => by rw [hb.block i (by omega), hW]⟩
  have hf1 := (hf.kept hg1 (by simpa using hXr)).kept g1 (by simp)
  obtain ⟨kl, hkl⟩ := hr.owns.keyed (key := vI a) (by rw [intV_at, hsv]; simp)
  obtain ⟨W2, hrun, hf2, hg2⟩ := hf1.store intLaw Tryz.underlying91 (by unfold maxLen; omega) hkl v'
  have hl := hb.size
  have hl2' := hg2.size
  refine ⟨W2, hrun, ⟨n2 + 1, upI sv2 a (some v'), (hrg.kept g1 (by simp) (by simp)).kept hg2 (by simpa using hbX) (by simp; omega), by rw [← intV_up]; exact hf2, by omega, ?_, ?_, by omega⟩, hg2⟩
  · have hcr1 : CRows W' (Wh.heap.size + 1) lf sv sv2 M.sp := by
      refine (hcr.same (w' := w1) fun g h1 h2 => hg1.block g h2 (by simp; omega)).same fun g h1 h2 => ?_
      exact g1.block g h2 (by simp)
    have hlow : ∀ a' u g, sv2 a' = some u → u.ownBlock = some g → g < W.heap.size := fun a' u g hu hg => by have := (hcr.lt hu hg).2; omega
    have hst2 := (hcr1.step (a := a) (v := v') (low := W.heap.size) (lf' := lf1) hlow (by omega) hv' hl2)
    refine hst2.same fun g h1 h2 => hg2.block g h2 (by simp; omega)
  · refine ⟨hg2.os.trans (g1.os.trans (hg1.os.trans hst.os)), hg2.tape.trans (g1.tape.trans (hg1.tape.trans hst.tape)), hg2.output.trans (g1.output.trans (hg1.output.trans hst.output)), by have := hst.size; omega, fun i hi hne => ?_⟩
    have := hst.size
    rw [hg2.block i (by omega) (by simpa using hne), g1.block i (by omega) (by simp), hg1.block i (by omega) (by simp; omega)]
    exact hst.block i hi hne

theorem CInv.row {w Wh wr w1 : World} {mb ba bs bf n MB b2 X b3 : Nat} {pv pv2 v : Value} {sv : Int → Option Value} {M : MeshM} {F : Nat → Prop} {cnt : Nat} {lf : Value → Bool} {a : Int} (h : MeshParts w mb ba bs bf n pv sv M F) (hd : Head w Wh MB b2 X b3 n pv2 M)
    (hi : CInv Wh wr bs X n sv M.sp lf cnt) (hsv : sv a = some v) (hg1 : wr.grownBy w1 (some Wh.heap.size)) : w1.ownsInts 0 3 .i64 v (M.sp a) := by
  obtain ⟨n2, sv2, hr, hf, hle, hcr, hst, hsz⟩ := hi
  have ho := h.rows.own a v hsv
  refine ⟨ownsRow_same ho.1 fun g hg => ?_, ho.2⟩
  have hlt := h.flt g (h.rows.inF a v g hsv hg).1
  have hlo := hd.lo
  have h1 := hd.bel.size
  rw [hg1.block g (by omega) (by simp; omega), hst.block g (by omega) (by omega), hd.bel.block g hlt]

theorem CInv.cell {w Wh wr w1 : World} {bs n MB b2 X b3 : Nat} {pv2 : Value} {sv : Int → Option Value} {M : MeshM} {cnt : Nat} {lf : Value → Bool} (hd : Head w Wh MB b2 X b3 n pv2 M)
    (hi : CInv Wh wr bs X n sv M.sp lf cnt) (hg1 : wr.grownBy w1 (some Wh.heap.size)) : w1.cell? ⟨MB, 2, none⟩ = some (.map (some X)) := by
  obtain ⟨n2, sv2, hr, hf, hle, hcr, hst, hsz⟩ := hi
  have := hd.hi
  have := hst.size
  exact (World.cell?_of_block (hg1.block MB (by omega) (by simp; omega))).trans ((World.cell?_of_block (hst.block MB hd.hi hd.nmb)).trans hd.c2)

theorem CInv.done {w Wh wr : World} {mb ba bs bf n MB b2 X b3 : Nat} {pv pv2 : Value} {sv : Int → Option Value} {M : MeshM} {F : Nat → Prop} {cnt : Nat} {lf : Value → Bool} (h : MeshParts w mb ba bs bf n pv sv M F) (hd : Head w Wh MB b2 X b3 n pv2 M)
    (hi : CInv Wh wr bs X n sv M.sp lf cnt) (hlf : ∀ k, lf k = false) : MeshAt wr MB n M (fun i => w.heap.size ≤ i ∧ i < wr.heap.size) ∧ Below w.heap.size w wr := by
  obtain ⟨n2, sv2, hr, hf, hle, hcr, hst, hsz⟩ := hi
  refine ⟨hd.done (fun i h1 h2 => hst.block i h1 h2) hst.size (by omega) hf (hcr.down (by omega)) hlf h.rows.none h.spl h.cb, ?_⟩
  have hlo := hd.lo
  have h1 := hd.bel
  exact h1.trans ⟨hst.os, hst.tape, hst.output, hst.size, fun i hi => hst.block i (by have := h1.size; omega) (by omega)⟩

set_option maxRecDepth 100000 in
set_option maxHeartbeats 4000000 in
theorem copy_walk {w : World} {mb n : Nat} {M : MeshM} {F : Nat → Prop} (h : MeshAt w mb n M F) (hl : M.P.length ≤ 1048576) (hn : n ≤ 1000000000) :
    Calls Tryz.prog 55 #[.pointer (some ⟨mb, 0, none⟩)] w fun r w' => ∃ mb2, r = .returned (.pointer (some ⟨mb2, 0, none⟩)) ∧ MeshAt w' mb2 n M (fun i => w.heap.size ≤ i ∧ i < w'.heap.size) ∧ Below w.heap.size w w' := by
  obtain ⟨ba, bs, bf, pv, sv, h⟩ := h
  obtain ⟨ad, cap, rfl, hp⟩ := h.ptcells
  have HMB := Lib.hid (h.flt mb h.fmb)
  have n0 : Src w w.drew mb (.slice ad M.P.length cap) (.map (some ba)) (.int .i64 M.cnt) (.map (some bf)) := ⟨h.c0, h.c1, h.c3, h.c4, (Below.refl _ w).drew⟩
  have HC1 : Hid (∀ W, Src w W mb (.slice ad M.P.length cap) (.map (some ba)) (.int .i64 M.cnt) (.map (some bf)) → Calls Tryz.prog 79 #[.slice ad M.P.length cap] W fun r W' => ∃ ad2 cap2, r = .returned (.slice ad2 M.P.length cap2) ∧ Hid (W'.ownsRow w.heap.size 25 2 (.slice ad2 M.P.length cap2) M.P.length (cellsP M.P)) ∧ Below W.heap.size W W' ∧ Src w W' mb (.slice ad M.P.length cap) (.map (some ba)) (.int .i64 M.cnt) (.map (some bf))) := by
    intro W hS
    refine (clone_walk M.P ad cap hl W (hp.below hS.2.2.2.2)).mono ?_
    rintro r W' ⟨v', rfl, ho, hb⟩
    obtain ⟨ad2, cap2, rfl⟩ := ownsRow_shape ho
    exact ⟨ad2, cap2, rfl, ownsRow_down hS.2.2.2.2.size ho, hb, hS.below HMB.out hb⟩
  have HC2 : Hid (∀ W, Src w W mb (.slice ad M.P.length cap) (.map (some ba)) (.int .i64 M.cnt) (.map (some bf)) → Calls Tryz.prog 91 #[.map (some ba)] W fun r W' => ∃ b2, r = .returned (.map (some b2)) ∧ W.heap.size ≤ b2 ∧ Hid (FMap Tryz.prog W' 94 b2 n (edgeV M.ap)) ∧ Below W.heap.size W W' ∧ Src w W' mb (.slice ad M.P.length cap) (.map (some ba)) (.int .i64 M.cnt) (.map (some bf))) := by
    intro W hS
    refine (cloneMap_walk (h.apm.same (hS.2.2.2.2.block ba (h.flt _ h.fba)))).mono ?_
    rintro r W' ⟨rfl, hf, hb⟩
    exact ⟨_, rfl, Nat.le_refl _, hf, hb, hS.below HMB.out hb⟩
  have HC3 : Hid (∀ W, Src w W mb (.slice ad M.P.length cap) (.map (some ba)) (.int .i64 M.cnt) (.map (some bf)) → Calls Tryz.prog 91 #[.map (some bf)] W fun r W' => ∃ b2, r = .returned (.map (some b2)) ∧ W.heap.size ≤ b2 ∧ Hid (FMap Tryz.prog W' 94 b2 n (edgeV M.fx)) ∧ Below W.heap.size W W' ∧ Src w W' mb (.slice ad M.P.length cap) (.map (some ba)) (.int .i64 M.cnt) (.map (some bf))) := by
    intro W hS
    refine (cloneMap_walk (h.fxm.same (hS.2.2.2.2.block bf (h.flt _ h.fbf)))).mono ?_
    rintro r W' ⟨rfl, hf, hb⟩
    exact ⟨_, rfl, Nat.le_refl _, hf, hb, hS.below HMB.out hb⟩
  have HSP := Lib.hid h
  have HL := Lib.hid hl
  have HNN := Lib.hid hn
  have hmm := @run_makeMap Tryz.prog
  clear h hp hl hn
  go_enter Tryz.func55, Tryz.ntmps55
  go_wp2
  unfold Src at *
  go_region_held3 (fun w' => w'.cell? ⟨mb, 0, none⟩ = some (.slice ad M.P.length cap) ∧ w'.cell? ⟨mb, 1, none⟩ = some (.map (some ba)) ∧ w'.cell? ⟨mb, 3, none⟩ = some (.int .i64 M.cnt) ∧ w'.cell? ⟨mb, 4, none⟩ = some (.map (some bf)) ∧ Below w.heap.size w w') (first | assumption | exact Src.alloc (by assumption) HMB.out _)
    (first
      | (go_at_call 79; refine (HC1.out _ ?_).mono ?_; assumption; rintro r w1 ⟨ad2, cap2, rfl, HO1, hb1, n1⟩)
      | (go_at_call 91; with_reducible refine (HC2.out _ ?_).mono ?_; assumption; rintro r w2 ⟨b2, rfl, hlo2, HF2, hb2, n2⟩)
      | (go_at_call 91; with_reducible refine (HC3.out _ ?_).mono ?_; assumption; rintro r w3 ⟨b3, rfl, hlo3, HF3, hb3, n3⟩))
  clear n0 HC1 HC2 HC3 hmm
  · have hd := head_mk (A := w2) (Wb := w3) n1.2.2.2.2 hb2 (below_drop hb3) (Below.refl _ _) HO1.out HF2.out HF3.out (by have := hlo2; (try simp at this); omega) (by have := hlo3; (try simp at this); omega) (by have h1 := n1.2.2.2.2.size; have h2 := hb2.size; have h3 := hb3.size; (try simp at h1 h2 h3); omega) hb3 (by have h1 := hlo2; have h2 := HF2.out.lt; have h3 := hb3.size; have h4 := hb1.size; (try simp at h1 h2 h3 h4); omega) (by have h1 := hlo3; have h2 := HF3.out.lt; have h3 := hb2.size; have h4 := hb1.size; (try simp at h1 h2 h3 h4); omega)
    have HD := Lib.hid hd
    clear hd hb1 hb2 hb3 n1 n2 n3 HO1 HF2 HF3 hlo2 hlo3
    generalize hWh : World.alloc _ (.cells #[.slice ad2 M.P.length cap2, .map (some b2), .map (some w2.heap.size), .int .i64 M.cnt, .map (some b3)] 93) = Wh at *
    clear hWh
    have c2 : Wh.cell? ⟨mb, 2, none⟩ = some (.map (some bs)) := (HSP.out.below HD.out.bel).c2
    have HFS := Lib.hid (HSP.out.below HD.out.bel).spm
    go_wp2_with (at_range; refine wp_range _ rfl _ 91 rfl 3 65 intLaw Tryz.underlying91 bs n _ rfl HFS.out ?_; intro w0 hrg0 hg0 hs0)
    go_frame
    have HI0 := Lib.hid (CInv.start HD.out hrg0 hg0 hs0)
    clear hrg0 hg0 hs0 c2
    go_loopw [] (fun wr => ∃ lf cnt, Hid (CInv Wh wr bs w2.heap.size n sv M.sp lf cnt)) (fun wr => wr.rangeLeft bs Wh.heap.size)
    case atStart => exact ⟨_, _, HI0.out⟩
    case round =>
      obtain ⟨lf, cnt, HI⟩ := hrel
      have HR : Hid (FRange Tryz.prog wr 3 bs Wh.heap.size n (intV sv) lf cnt) := by obtain ⟨n2, sv2, hr, _⟩ := HI.out; exact hr
      go_wp2_with (first | (at_next; refine wp_next _ rfl _ rfl 3 intLaw vI (fun v : Value => v) bs Wh.heap.size n (intV sv) (fun key h => intV_ne h) (fun key v h => ⟨v, rfl⟩) lf cnt rfl HR.out ?_ ?_) | go_in)
      · intro hd
        have HF := Lib.hid (CInv.done HSP.out HD.out HI.out hd)
        clear hd
        go_wp2
        go_ret
        exact ⟨_, rfl, HF.out.1, HF.out.2⟩
      · intro a v w4 cnt1 lf1 hlx hfx hl1 hl2 hrg1 hlt1 hg1 hs1 hen
        have hsv : sv a = some v := hfx
        have n4' : w4.cell? ⟨w3.heap.size, 2, none⟩ = some (.map (some w2.heap.size)) := CInv.cell HD.out HI.out hg1
        have n4 : w4.drew.cell? ⟨w3.heap.size, 2, none⟩ = some (.map (some w2.heap.size)) := n4'
        have HROW := Lib.hid (CInv.row HSP.out HD.out HI.out hsv hg1)
        have HLT := Lib.hid hlt1
        have HC5 : Hid (Calls Tryz.prog 92 #[v] w4.drew fun r w5 => ∃ v' w6, r = .returned v' ∧ w5.cell? ⟨w3.heap.size, 2, none⟩ = some (.map (some w2.heap.size)) ∧ (Instr.mapUpdate 91 (.map (some w2.heap.size)) (.int .i64 a) v').run Tryz.prog w5 = .ok () w6 ∧ w6.cell? ⟨w3.heap.size, 2, none⟩ = some (.map (some w2.heap.size)) ∧ Hid (CInv Wh w6 bs (w2.heap.size) n sv M.sp lf1 cnt1)) := by
          refine (cloneI_walk (w := w4.drew) HROW.out (by have := HSP.out.spl a; have := HNN.out; omega)).mono ?_
          rintro r w5 ⟨v', rfl, ho5, hb5⟩
          obtain ⟨w6, hrun6, hi6, hg6⟩ := CInv.round (W := w4.drew) HSP.out HD.out HNN.out HI.out hsv hl2 hrg1 hlt1 hg1 hs1 rfl hb5 ⟨rfl, rfl, rfl⟩ ho5
          have n5 := cell_stays (w := w4.drew) n4 hb5
          exact ⟨v', w6, rfl, n5, hrun6, hg6.cell n5 (by have := HD.out.nmb; simpa using this), hi6⟩
        clear hlx hfx hl1 hl2 hrg1 hlt1 hg1 hs1 hsv HROW n4'
        simp only [vI] at hen
        go_wp2
        go_region_held3 (fun w' => w'.cell? ⟨w3.heap.size, 2, none⟩ = some (.map (some (w2.heap.size)))) (first | assumption | exact n4 | exact n5 | exact n6)
          (first | (go_at_call 92; refine HC5.out.mono ?_; rintro r w5 ⟨v', w6, rfl, n5, hrun6, n6, HI6⟩))
        all_goals
          go_wp2
          go_roundw
          case rel => exact ⟨lf1, cnt1, HI6.out⟩
          case measure =>
            obtain ⟨n2, sv2, hr6, _⟩ := HI6.out
            rw [hr6.left_eq, HR.out.left_eq]
            exact HLT.out
  · have hd := head_mk (A := w3) (Wb := (w3.alloc (.map #[] 0))) n1.2.2.2.2 hb2 hb3 ((Below.refl _ w3).alloc (Nat.le_refl _) _) HO1.out HF2.out HF3.out (by have := hlo2; (try simp at this); omega) (by have := hlo3; (try simp at this); omega) (by have h1 := n1.2.2.2.2.size; have h2 := hb2.size; have h3 := hb3.size; (try simp at h1 h2 h3); omega) (Below.refl _ _) (by have h1 := hlo2; have h2 := HF2.out.lt; have h3 := hb3.size; have h4 := hb1.size; (try simp at h1 h2 h3 h4); omega) (by have h1 := hlo3; have h2 := HF3.out.lt; have h3 := hb2.size; have h4 := hb1.size; (try simp at h1 h2 h3 h4); omega)
    have hz : (w3.alloc (.map #[] 0)).heap.size = w3.heap.size + 1 := by simp
    rw [hz] at hd
    clear hz
    have HD := Lib.hid hd
    clear hd hb1 hb2 hb3 n1 n2 n3 HO1 HF2 HF3 hlo2 hlo3
    generalize hWh : World.alloc _ (.cells #[.slice ad2 M.P.length cap2, .map (some b2), .map (some w3.heap.size), .int .i64 M.cnt, .map (some b3)] 93) = Wh at *
    clear hWh
    have c2 : Wh.cell? ⟨mb, 2, none⟩ = some (.map (some bs)) := (HSP.out.below HD.out.bel).c2
    have HFS := Lib.hid (HSP.out.below HD.out.bel).spm
    go_wp2_with (at_range; refine wp_range _ rfl _ 91 rfl 3 65 intLaw Tryz.underlying91 bs n _ rfl HFS.out ?_; intro w0 hrg0 hg0 hs0)
    go_frame
    have HI0 := Lib.hid (CInv.start HD.out hrg0 hg0 hs0)
    clear hrg0 hg0 hs0 c2
    go_loopw [] (fun wr => ∃ lf cnt, Hid (CInv Wh wr bs w3.heap.size n sv M.sp lf cnt)) (fun wr => wr.rangeLeft bs Wh.heap.size)
    case atStart => exact ⟨_, _, HI0.out⟩
    case round =>
      obtain ⟨lf, cnt, HI⟩ := hrel
      have HR : Hid (FRange Tryz.prog wr 3 bs Wh.heap.size n (intV sv) lf cnt) := by obtain ⟨n2, sv2, hr, _⟩ := HI.out; exact hr
      go_wp2_with (first | (at_next; refine wp_next _ rfl _ rfl 3 intLaw vI (fun v : Value => v) bs Wh.heap.size n (intV sv) (fun key h => intV_ne h) (fun key v h => ⟨v, rfl⟩) lf cnt rfl HR.out ?_ ?_) | go_in)
      · intro hd
        have HF := Lib.hid (CInv.done HSP.out HD.out HI.out hd)
        clear hd
        go_wp2
        go_ret
        exact ⟨_, rfl, HF.out.1, HF.out.2⟩
      · intro a v w4 cnt1 lf1 hlx hfx hl1 hl2 hrg1 hlt1 hg1 hs1 hen
        have hsv : sv a = some v := hfx
        have n4' : w4.cell? ⟨w3.heap.size + 1, 2, none⟩ = some (.map (some w3.heap.size)) := CInv.cell HD.out HI.out hg1
        have n4 : w4.drew.cell? ⟨w3.heap.size + 1, 2, none⟩ = some (.map (some w3.heap.size)) := n4'
        have HROW := Lib.hid (CInv.row HSP.out HD.out HI.out hsv hg1)
        have HLT := Lib.hid hlt1
        have HC5 : Hid (Calls Tryz.prog 92 #[v] w4.drew fun r w5 => ∃ v' w6, r = .returned v' ∧ w5.cell? ⟨w3.heap.size + 1, 2, none⟩ = some (.map (some w3.heap.size)) ∧ (Instr.mapUpdate 91 (.map (some w3.heap.size)) (.int .i64 a) v').run Tryz.prog w5 = .ok () w6 ∧ w6.cell? ⟨w3.heap.size + 1, 2, none⟩ = some (.map (some w3.heap.size)) ∧ Hid (CInv Wh w6 bs (w3.heap.size) n sv M.sp lf1 cnt1)) := by
          refine (cloneI_walk (w := w4.drew) HROW.out (by have := HSP.out.spl a; have := HNN.out; omega)).mono ?_
          rintro r w5 ⟨v', rfl, ho5, hb5⟩
          obtain ⟨w6, hrun6, hi6, hg6⟩ := CInv.round (W := w4.drew) HSP.out HD.out HNN.out HI.out hsv hl2 hrg1 hlt1 hg1 hs1 rfl hb5 ⟨rfl, rfl, rfl⟩ ho5
          have n5 := cell_stays (w := w4.drew) n4 hb5
          exact ⟨v', w6, rfl, n5, hrun6, hg6.cell n5 (by simp), hi6⟩
        clear hlx hfx hl1 hl2 hrg1 hlt1 hg1 hs1 hsv HROW n4'
        simp only [vI] at hen
        go_wp2
        go_region_held3 (fun w' => w'.cell? ⟨w3.heap.size + 1, 2, none⟩ = some (.map (some (w3.heap.size)))) (first | assumption | exact n4 | exact n5 | exact n6)
          (first | (go_at_call 92; refine HC5.out.mono ?_; rintro r w5 ⟨v', w6, rfl, n5, hrun6, n6, HI6⟩))
        all_goals
          go_wp2
          go_roundw
          case rel => exact ⟨lf1, cnt1, HI6.out⟩
          case measure =>
            obtain ⟨n2, sv2, hr6, _⟩ := HI6.out
            rw [hr6.left_eq, HR.out.left_eq]
            exact HLT.out
  · have hd := head_mk (A := w1) (Wb := w3) n1.2.2.2.2 (below_drop hb2) hb3 (Below.refl _ _) HO1.out HF2.out HF3.out (by have := hlo2; (try simp at this); omega) (by have := hlo3; (try simp at this); omega) (by have h1 := n1.2.2.2.2.size; have h2 := hb2.size; have h3 := hb3.size; (try simp at h1 h2 h3); omega) (hb2.trans (hb3.mono hb2.size)) (by have h1 := hlo2; have h2 := HF2.out.lt; have h3 := hb3.size; have h4 := hb1.size; (try simp at h1 h2 h3 h4); omega) (by have h1 := hlo3; have h2 := HF3.out.lt; have h3 := hb2.size; have h4 := hb1.size; (try simp at h1 h2 h3 h4); omega)
    have HD := Lib.hid hd
    clear hd hb1 hb2 hb3 n1 n2 n3 HO1 HF2 HF3 hlo2 hlo3
    generalize hWh : World.alloc _ (.cells #[.slice ad2 M.P.length cap2, .map (some b2), .map (some w1.heap.size), .int .i64 M.cnt, .map (some b3)] 93) = Wh at *
    clear hWh
    have c2 : Wh.cell? ⟨mb, 2, none⟩ = some (.map (some bs)) := (HSP.out.below HD.out.bel).c2
    have HFS := Lib.hid (HSP.out.below HD.out.bel).spm
    go_wp2_with (at_range; refine wp_range _ rfl _ 91 rfl 3 65 intLaw Tryz.underlying91 bs n _ rfl HFS.out ?_; intro w0 hrg0 hg0 hs0)
    go_frame
    have HI0 := Lib.hid (CInv.start HD.out hrg0 hg0 hs0)
    clear hrg0 hg0 hs0 c2
    go_loopw [] (fun wr => ∃ lf cnt, Hid (CInv Wh wr bs w1.heap.size n sv M.sp lf cnt)) (fun wr => wr.rangeLeft bs Wh.heap.size)
    case atStart => exact ⟨_, _, HI0.out⟩
    case round =>
      obtain ⟨lf, cnt, HI⟩ := hrel
      have HR : Hid (FRange Tryz.prog wr 3 bs Wh.heap.size n (intV sv) lf cnt) := by obtain ⟨n2, sv2, hr, _⟩ := HI.out; exact hr
      go_wp2_with (first | (at_next; refine wp_next _ rfl _ rfl 3 intLaw vI (fun v : Value => v) bs Wh.heap.size n (intV sv) (fun key h => intV_ne h) (fun key v h => ⟨v, rfl⟩) lf cnt rfl HR.out ?_ ?_) | go_in)
      · intro hd
        have HF := Lib.hid (CInv.done HSP.out HD.out HI.out hd)
        clear hd
        go_wp2
        go_ret
        exact ⟨_, rfl, HF.out.1, HF.out.2⟩
      · intro a v w4 cnt1 lf1 hlx hfx hl1 hl2 hrg1 hlt1 hg1 hs1 hen
        have hsv : sv a = some v := hfx
        have n4' : w4.cell? ⟨w3.heap.size, 2, none⟩ = some (.map (some w1.heap.size)) := CInv.cell HD.out HI.out hg1
        have n4 : w4.drew.cell? ⟨w3.heap.size, 2, none⟩ = some (.map (some w1.heap.size)) := n4'
        have HROW := Lib.hid (CInv.row HSP.out HD.out HI.out hsv hg1)
        have HLT := Lib.hid hlt1
        have HC5 : Hid (Calls Tryz.prog 92 #[v] w4.drew fun r w5 => ∃ v' w6, r = .returned v' ∧ w5.cell? ⟨w3.heap.size, 2, none⟩ = some (.map (some w1.heap.size)) ∧ (Instr.mapUpdate 91 (.map (some w1.heap.size)) (.int .i64 a) v').run Tryz.prog w5 = .ok () w6 ∧ w6.cell? ⟨w3.heap.size, 2, none⟩ = some (.map (some w1.heap.size)) ∧ Hid (CInv Wh w6 bs (w1.heap.size) n sv M.sp lf1 cnt1)) := by
          refine (cloneI_walk (w := w4.drew) HROW.out (by have := HSP.out.spl a; have := HNN.out; omega)).mono ?_
          rintro r w5 ⟨v', rfl, ho5, hb5⟩
          obtain ⟨w6, hrun6, hi6, hg6⟩ := CInv.round (W := w4.drew) HSP.out HD.out HNN.out HI.out hsv hl2 hrg1 hlt1 hg1 hs1 rfl hb5 ⟨rfl, rfl, rfl⟩ ho5
          have n5 := cell_stays (w := w4.drew) n4 hb5
          exact ⟨v', w6, rfl, n5, hrun6, hg6.cell n5 (by have := HD.out.nmb; simpa using this), hi6⟩
        clear hlx hfx hl1 hl2 hrg1 hlt1 hg1 hs1 hsv HROW n4'
        simp only [vI] at hen
        go_wp2
        go_region_held3 (fun w' => w'.cell? ⟨w3.heap.size, 2, none⟩ = some (.map (some (w1.heap.size)))) (first | assumption | exact n4 | exact n5 | exact n6)
          (first | (go_at_call 92; refine HC5.out.mono ?_; rintro r w5 ⟨v', w6, rfl, n5, hrun6, n6, HI6⟩))
        all_goals
          go_wp2
          go_roundw
          case rel => exact ⟨lf1, cnt1, HI6.out⟩
          case measure =>
            obtain ⟨n2, sv2, hr6, _⟩ := HI6.out
            rw [hr6.left_eq, HR.out.left_eq]
            exact HLT.out
  · have hd := head_mk (A := w) (Wb := w3) n1.2.2.2.2 hb2 hb3 (Below.refl _ _) HO1.out HF2.out HF3.out (by have := hlo2; (try simp at this); omega) (by have := hlo3; (try simp at this); omega) (by have h1 := n1.2.2.2.2.size; have h2 := hb2.size; have h3 := hb3.size; (try simp at h1 h2 h3); omega) ((Below.refl _ (w.alloc (.map #[] 0))).drew.trans (hb1.trans ((hb2.trans (hb3.mono hb2.size)).mono hb1.size))) (by have h1 := hlo2; have h2 := HF2.out.lt; have h3 := hb3.size; have h4 := hb1.size; (try simp at h1 h2 h3 h4); omega) (by have h1 := hlo3; have h2 := HF3.out.lt; have h3 := hb2.size; have h4 := hb1.size; (try simp at h1 h2 h3 h4); omega)
    have HD := Lib.hid hd
    clear hd hb1 hb2 hb3 n1 n2 n3 HO1 HF2 HF3 hlo2 hlo3
    generalize hWh : World.alloc _ (.cells #[.slice ad2 M.P.length cap2, .map (some b2), .map (some w.heap.size), .int .i64 M.cnt, .map (some b3)] 93) = Wh at *
    clear hWh
    have c2 : Wh.cell? ⟨mb, 2, none⟩ = some (.map (some bs)) := (HSP.out.below HD.out.bel).c2
    have HFS := Lib.hid (HSP.out.below HD.out.bel).spm
    go_wp2_with (at_range; refine wp_range _ rfl _ 91 rfl 3 65 intLaw Tryz.underlying91 bs n _ rfl HFS.out ?_; intro w0 hrg0 hg0 hs0)
    go_frame
    have HI0 := Lib.hid (CInv.start HD.out hrg0 hg0 hs0)
    clear hrg0 hg0 hs0 c2
    go_loopw [] (fun wr => ∃ lf cnt, Hid (CInv Wh wr bs w.heap.size n sv M.sp lf cnt)) (fun wr => wr.rangeLeft bs Wh.heap.size)
    case atStart => exact ⟨_, _, HI0.out⟩
    case round =>
      obtain ⟨lf, cnt, HI⟩ := hrel
      have HR : Hid (FRange Tryz.prog wr 3 bs Wh.heap.size n (intV sv) lf cnt) := by obtain ⟨n2, sv2, hr, _⟩ := HI.out; exact hr
      go_wp2_with (first | (at_next; refine wp_next _ rfl _ rfl 3 intLaw vI (fun v : Value => v) bs Wh.heap.size n (intV sv) (fun key h => intV_ne h) (fun key v h => ⟨v, rfl⟩) lf cnt rfl HR.out ?_ ?_) | go_in)
      · intro hd
        have HF := Lib.hid (CInv.done HSP.out HD.out HI.out hd)
        clear hd
        go_wp2
        go_ret
        exact ⟨_, rfl, HF.out.1, HF.out.2⟩
      · intro a v w4 cnt1 lf1 hlx hfx hl1 hl2 hrg1 hlt1 hg1 hs1 hen
        have hsv : sv a = some v := hfx
        have n4' : w4.cell? ⟨w3.heap.size, 2, none⟩ = some (.map (some w.heap.size)) := CInv.cell HD.out HI.out hg1
        have n4 : w4.drew.cell? ⟨w3.heap.size, 2, none⟩ = some (.map (some w.heap.size)) := n4'
        have HROW := Lib.hid (CInv.row HSP.out HD.out HI.out hsv hg1)
        have HLT := Lib.hid hlt1
        have HC5 : Hid (Calls Tryz.prog 92 #[v] w4.drew fun r w5 => ∃ v' w6, r = .returned v' ∧ w5.cell? ⟨w3.heap.size, 2, none⟩ = some (.map (some w.heap.size)) ∧ (Instr.mapUpdate 91 (.map (some w.heap.size)) (.int .i64 a) v').run Tryz.prog w5 = .ok () w6 ∧ w6.cell? ⟨w3.heap.size, 2, none⟩ = some (.map (some w.heap.size)) ∧ Hid (CInv Wh w6 bs (w.heap.size) n sv M.sp lf1 cnt1)) := by
          refine (cloneI_walk (w := w4.drew) HROW.out (by have := HSP.out.spl a; have := HNN.out; omega)).mono ?_
          rintro r w5 ⟨v', rfl, ho5, hb5⟩
          obtain ⟨w6, hrun6, hi6, hg6⟩ := CInv.round (W := w4.drew) HSP.out HD.out HNN.out HI.out hsv hl2 hrg1 hlt1 hg1 hs1 rfl hb5 ⟨rfl, rfl, rfl⟩ ho5
          have n5 := cell_stays (w := w4.drew) n4 hb5
          exact ⟨v', w6, rfl, n5, hrun6, hg6.cell n5 (by have := HD.out.nmb; simpa using this), hi6⟩
        clear hlx hfx hl1 hl2 hrg1 hlt1 hg1 hs1 hsv HROW n4'
        simp only [vI] at hen
        go_wp2
        go_region_held3 (fun w' => w'.cell? ⟨w3.heap.size, 2, none⟩ = some (.map (some (w.heap.size)))) (first | assumption | exact n4 | exact n5 | exact n6)
          (first | (go_at_call 92; refine HC5.out.mono ?_; rintro r w5 ⟨v', w6, rfl, n5, hrun6, n6, HI6⟩))
        all_goals
          go_wp2
          go_roundw
          case rel => exact ⟨lf1, cnt1, HI6.out⟩
          case measure =>
            obtain ⟨n2, sv2, hr6, _⟩ := HI6.out
            rw [hr6.left_eq, HR.out.left_eq]
            exact HLT.out

end Go.Proofs.YthookkmgmholcaaGreatDoor
