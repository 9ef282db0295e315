/- (*Mesh).Kill. No conditions. -/
import Derived.Test.YthookkmgmholcaaGreatDoorZ6
import Derived.Test.YthookkmgmholcaaGreatDoorZ5
import Derived.Test.YthookkmgmholcaaGreatDoorZ7
import Derived.Sort.Grow
import Derived.Shelf.SlLaysH
import Derived.Shelf.SlLaysC2
import Derived.Ground.SlgfProg
import Derived.Ground.SlgcProg
import Derived.Shelf.SlGeneric
import Derived.Test.YthookkmgmholcaaGreatDoorChecked
import Derived.Shelf.SlicesE.DeleteFunc

/- One edge and its spokes anew: what the stores leave, whatever they are. -/
namespace Go.Proofs.YthookkmgmholcaaGreatDoor
open Go.RowKit Go.Maps Go.WideMaps

theorem step_gen {wr W1 W2 W2' W3 W4 : World} {mb ba bs bf n : Nat} {pv : Value} {sv : Int → Option Value} {M : MeshM} {F : Nat → Prop} (h : MeshParts wr mb ba bs bf n pv sv M F) {x : Int} {ap' : Int → Int → Option Int} {l' : List Int}
    (b01 : Below wr.heap.size wr W1) (g12 : W1.grownBy W2 (some ba)) (hap : FMap Tryz.prog W2 94 ba (n + 1) (edgeV ap'))
    (b22 : Below W2.heap.size W2 W2') (v' : Value) (g23 : W2'.grownBy W3 (atSv sv x).ownBlock) (hrow : W3.ownsInts 0 3 .i64 v' l')
    (hloc : v'.ownBlock = (atSv sv x).ownBlock ∨ v'.ownBlock = some W2'.heap.size) (hlen : l'.length ≤ n + 1)
    (hsp : FMap Tryz.prog W4 3 bs (n + 1) (updV (intV sv) (vI x) v')) (g34 : W3.grownBy W4 (some bs)) :
    MeshParts W4 mb ba bs bf (n + 1) pv (upI sv x (some v')) { M with ap := ap', sp := upI M.sp x l' } (fun i => F i ∨ (wr.heap.size ≤ i ∧ i < W4.heap.size)) ∧ Stay F wr W4 := by
  have s1 := b01.size
  have s2 := g12.size
  have s3 := b22.size
  have s4 := g23.size
  have s5 := g34.size
  have hba := h.flt ba h.fba
  have hbs := h.flt bs h.fbs
  have hbf := h.flt bf h.fbf
  have hmb := h.flt mb h.fmb
  -- an old block that is none of the three
  have old : ∀ i, i < wr.heap.size → i ≠ ba → i ≠ bs → (atSv sv x).ownBlock ≠ some i → W4.heap[i]? = wr.heap[i]? := by
    intro i hi h1 h2 h3
    rw [g34.block i (by omega) (by simpa using h2), g23.block i (by omega) (fun e => h3 e.symm), b22.block i (by omega), g12.block i (by omega) (by simpa using h1), b01.block i hi]
  -- blocks of other kinds
  have rowF : ∀ g, (atSv sv x).ownBlock = some g → F g ∧ g ≠ mb ∧ pv.ownBlock ≠ some g ∧ g < wr.heap.size := by
    intro g hg
    obtain ⟨v, hv, hvg, _⟩ := atSv_block hg
    have := h.rows.inF x v g hv hvg
    exact ⟨this.1, fun e => this.2 (.inl e), fun e => this.2 (.inr e), h.flt g this.1⟩
  have rowCells : ∀ a v g, sv a = some v → v.ownBlock = some g → ∃ cur e, wr.heap[g]? = some (.cells cur e (0, 0)) := by
    intro a v g hv hg
    rcases (h.rows.own a v hv).1.2 with ⟨rfl, _⟩ | ⟨g', cap, cur, rfl, _, hh, _⟩
    · simp [Value.ownBlock] at hg
    · simp [Value.ownBlock] at hg; subst hg; exact ⟨cur, _, hh⟩
  have isMap : ∀ {k : TypeId} {b n : Nat} {f : Value → Option Value}, FMap Tryz.prog wr k b n f → ∀ a v, sv a = some v → v.ownBlock ≠ some b := by
    intro k b n f hf a v hv e
    obtain ⟨cur, ty, h1⟩ := rowCells a v b hv e
    obtain ⟨es, cl, h2⟩ := hf.isMap
    rw [h1] at h2; cases h2
  have rowNe : ∀ {k : TypeId} {b n : Nat} {f : Value → Option Value}, FMap Tryz.prog wr k b n f → (atSv sv x).ownBlock ≠ some b := by
    intro k b n f hf e
    obtain ⟨v, hv, hvg, _⟩ := atSv_block e
    exact isMap hf x v hv hvg
  have mbMap : ∀ {k : TypeId} {b n : Nat} {f : Value → Option Value}, FMap Tryz.prog wr k b n f → mb ≠ b := by
    intro k b n f hf e
    subst e
    obtain ⟨es, cl, h2⟩ := hf.isMap
    have := h.c0
    simp [World.cell?, h2] at this
  have pvMap : ∀ {k : TypeId} {b n : Nat} {f : Value → Option Value}, FMap Tryz.prog wr k b n f → pv.ownBlock ≠ some b := by
    intro k b n f hf e
    rcases h.pts.2 with ⟨h1, _⟩ | ⟨g', cap, cur, h1, _, hh, _⟩
    · rw [h1] at e; simp [Value.ownBlock] at e
    · rw [h1] at e; simp [Value.ownBlock] at e; subst e
      obtain ⟨es, cl, h2⟩ := hf.isMap
      rw [hh] at h2; cases h2
  have mbOld : W4.heap[mb]? = wr.heap[mb]? := old mb hmb (mbMap h.apm) (mbMap h.spm) (fun e => (rowF mb e).2.1 rfl)
  have bfOld : W4.heap[bf]? = wr.heap[bf]? := old bf hbf (Ne.symm h.naf) (Ne.symm h.nsf) (rowNe h.fxm)
  have hc : ∀ i, W4.cell? ⟨mb, i, none⟩ = wr.cell? ⟨mb, i, none⟩ := fun i => World.cell?_of_block mbOld
  have hv'F : ∀ g, v'.ownBlock = some g → (F g ∨ (wr.heap.size ≤ g ∧ g < W4.heap.size)) ∧ g ≠ mb ∧ pv.ownBlock ≠ some g := by
    intro g hg
    rcases hloc with e | e
    · have := rowF g (e ▸ hg); exact ⟨.inl this.1, this.2.1, this.2.2.1⟩
    · rw [hg] at e; cases e
      have hlt := hrow.1.lt _ hg
      refine ⟨.inr ⟨by omega, by omega⟩, by omega, fun e => ?_⟩
      have := h.flt _ (h.fpv _ e); omega
  refine ⟨⟨(hc 0).trans h.c0, (hc 1).trans h.c1, (hc 2).trans h.c2, (hc 3).trans h.c3, (hc 4).trans h.c4, fun i => (World.frozen?_of_block mbOld).trans (h.fz i), ?_, ?_, ?_, ?_, ?_, h.nab, h.naf, h.nsf, h.npm, .inl h.fmb, .inl h.fba, .inl h.fbs, .inl h.fbf, fun g hg => .inl (h.fpv g hg), ?_, ?_, by have := h.cb; show -((n + 1 : Nat) : Int) ≤ M.cnt ∧ M.cnt ≤ ((n + 1 : Nat) : Int); omega⟩, ?_⟩
  · exact ownsRow_same h.pts fun g hg => old g (h.flt g (h.fpv g hg)) (fun e => pvMap h.apm (e ▸ hg)) (fun e => pvMap h.spm (e ▸ hg)) (fun e => (rowF g e).2.2.1 hg)
  · have : FMap Tryz.prog W4 94 ba (n + 1) (edgeV ap') := by
      refine hap.same ?_
      rw [g34.block ba (by omega) (by simpa using h.nab), g23.block ba (by omega) (fun e => rowNe h.apm e.symm), b22.block ba (by omega)]
    exact this
  · have := hsp
    rw [intV_up] at this
    exact this
  · exact (h.fxm.mono (Nat.le_succ n)).same bfOld
  · refine ⟨fun a ha => ?_, fun a v hv => ?_, fun a a' v u hne hv hu => ?_, fun a v g hv hg => ?_⟩
    · by_cases e : a = x
      · subst e; rw [upI_same] at ha; cases ha
      · rw [upI_other _ _ e] at ha
        show upI M.sp x _ a = []
        rw [upI_other _ _ e]; exact h.rows.none a ha
    · by_cases e : a = x
      · subst e; rw [upI_same] at hv; cases hv
        show W4.ownsInts 0 _ _ v' (upI M.sp a _ a)
        rw [upI_same]
        refine ⟨ownsRow_same hrow.1 fun g hg => g34.block g (hrow.1.lt g hg).2 ?_, hrow.2⟩
        intro e
        simp only [Option.some.injEq] at e
        subst e
        rcases hloc with e | e
        · exact rowNe h.spm (e ▸ hg)
        · rw [hg] at e; cases e; omega
      · rw [upI_other _ _ e] at hv
        show W4.ownsInts 0 _ _ v (upI M.sp x _ a)
        rw [upI_other _ _ e]
        refine ⟨ownsRow_same (h.rows.own a v hv).1 fun g hg => ?_, (h.rows.own a v hv).2⟩
        refine old g (h.flt g (h.rows.inF a v g hv hg).1) (fun e => isMap h.apm a v hv (e ▸ hg)) (fun e => isMap h.spm a v hv (e ▸ hg)) (fun e1 => ?_)
        obtain ⟨u, hu, hug, _⟩ := atSv_block e1
        rcases h.rows.dis a x v u e hv hu with d | d
        · rw [hg] at d; cases d
        · exact d (hg.trans hug.symm)
    · -- no two keys' slices in one row
      have key : ∀ a v, a ≠ x → sv a = some v → v.ownBlock = none ∨ v.ownBlock ≠ v'.ownBlock := by
        intro a v hne hv
        cases hb : v.ownBlock with
        | none => exact .inl rfl
        | some g =>
          right; intro e
          rcases hloc with e1 | e1
          · rw [e1] at e
            obtain ⟨u, hu, hug, _⟩ := atSv_block e.symm
            rcases h.rows.dis a x v u hne hv hu with d | d
            · rw [hb] at d; cases d
            · exact d (hb.trans hug.symm)
          · rw [e1] at e; cases e
            have := h.flt _ (h.rows.inF a v _ hv hb).1
            omega
      by_cases e : a = x
      · subst e; rw [upI_same] at hv; cases hv
        rw [upI_other _ _ (Ne.symm hne)] at hu
        rcases key a' u (Ne.symm hne) hu with d | d
        · cases hb : v'.ownBlock with
          | none => exact .inl rfl
          | some g => right; rw [d]; simp
        · exact .inr (Ne.symm d)
      · rw [upI_other _ _ e] at hv
        by_cases e' : a' = x
        · subst e'; rw [upI_same] at hu; cases hu
          exact key a v e hv
        · rw [upI_other _ _ e'] at hu
          exact h.rows.dis a a' v u hne hv hu
    · by_cases e : a = x
      · subst e; rw [upI_same] at hv; cases hv
        have := hv'F g hg
        exact ⟨this.1, fun e => e.elim this.2.1 this.2.2⟩
      · rw [upI_other _ _ e] at hv
        exact ⟨.inl (h.rows.inF a v g hv hg).1, (h.rows.inF a v g hv hg).2⟩
  · intro g hg
    rcases hg with hg | hg
    · have := h.flt g hg; omega
    · exact hg.2
  · intro a
    show (upI M.sp x _ a).length ≤ _
    by_cases e : a = x
    · subst e; rw [upI_same]
      exact hlen
    · rw [upI_other _ _ e]
      have := h.spl a; omega
  · refine ⟨?_, ?_, ?_, by omega, fun i hi hF => old i hi (fun e => hF (e ▸ h.fba)) (fun e => hF (e ▸ h.fbs)) (fun e => hF (rowF i e).1)⟩
    · rw [g34.os, g23.os, b22.os, g12.os, b01.os]
    · rw [g34.tape, g23.tape, b22.tape, g12.tape, b01.tape]
    · rw [g34.output, g23.output, b22.output, g12.output, b01.output]


end Go.Proofs.YthookkmgmholcaaGreatDoor

/- Rows written over in place: what a slice owns behind it. -/
namespace Go.Proofs.YthookkmgmholcaaGreatDoor
open Go.RowKit Go.Maps Go.WideMaps Go.Sort

theorem heap_mapBlock_other (w : World) (blk : Nat) (f : Array Value → Array Value) {i : Nat} (h : i ≠ blk) : (mapBlock w blk f).heap[i]? = w.heap[i]? := by
  unfold mapBlock; simp [Array.getElem?_modify, Ne.symm h]
theorem heap_mapBlock_same {w : World} {blk : Nat} {f : Array Value → Array Value} {c : Array Value} {e : TypeId} {fr : Nat × Nat} (h : w.heap[blk]? = some (.cells c e fr)) : (mapBlock w blk f).heap[blk]? = some (.cells (f c) e fr) := by
  unfold mapBlock; simp [Array.getElem?_modify, h, onCells]

theorem putCells_enc {α : Type} [Inhabited α] (enc : α → Value) (off : Nat) (d : Array α) : putCells enc off d = putCells id off (d.map enc) := by
  funext c
  unfold putCells
  apply Array.ext_getElem?
  intro k
  simp only [Array.getElem?_mapIdx, Array.size_map]
  cases c[k]? with
  | none => rfl
  | some x =>
    simp only [Option.map_some]
    split
    · rename_i h
      have h1 : k - off < d.size := by omega
      rw [getElem!_pos d _ h1, getElem!_pos (d.map enc) _ (by simpa using h1)]
      simp
    · rfl

theorem putRow_enc {α : Type} [Inhabited α] (enc : α → Value) (w : World) (blk off : Nat) (d : Array α) : putRow enc w blk off d = putRow id w blk off (d.map enc) := by
  unfold putRow; rw [putCells_enc]

theorem put_grown (w : World) (q blk off : Nat) (d : Array Value) : w.grownBy (putRow id (Sort.ahead w q) blk off d) (some blk) := by
  refine ⟨rfl, rfl, rfl, by rw [size_putRow]; exact Nat.le_refl _, fun k _ hk => ?_⟩
  unfold putRow
  rw [heap_mapBlock_other _ _ _ (fun e => hk (by rw [e]))]
  rfl

theorem putCells_take (d c : Array Value) (h : d.size ≤ c.size) (k : Nat) (hk : k ≤ d.size) : (putCells id 0 d c).toList.take k = d.toList.take k := by
  apply List.ext_getElem?
  intro i
  rw [List.getElem?_take, List.getElem?_take]
  split
  · rename_i hi
    rw [Array.getElem?_toList, Array.getElem?_toList]
    unfold putCells
    rw [Array.getElem?_mapIdx, Array.getElem?_eq_getElem (show i < c.size by omega), Option.map_some, if_pos (by omega), Nat.sub_zero, Array.getElem?_eq_getElem (show i < d.size by omega), getElem!_pos d i (by omega)]
    rfl
  · rfl

theorem owns_put {w : World} {e size g n n' cap base : Nat} {xs : List Value} (h : w.ownsRow base e size (.slice (some ⟨g, 0, none⟩) n cap) n xs) (q : Nat) (d : Array Value) (h1 : n' * size ≤ d.size) (h2 : d.size ≤ n * size) (h3 : n' ≤ n) :
    (putRow id (Sort.ahead w q) g 0 d).ownsRow base e size (.slice (some ⟨g, 0, none⟩) n' cap) n' (d.toList.take (n' * size)) := by
  rcases h.2 with ⟨hv, _⟩ | ⟨g', cap', cur, hv, hb, hh, hn, hm, hs, ht⟩
  · cases hv
  · cases hv
    have hc : n * size ≤ cap * size := Nat.mul_le_mul_right _ hn
    refine ⟨by rw [List.length_take, Array.length_toList]; omega, .inr ⟨g, cap, putCells id 0 d cur, rfl, hb, heap_mapBlock_same hh, by omega, hm, ?_, ?_⟩⟩
    · unfold putCells; rw [Array.size_mapIdx]; exact hs
    · exact putCells_take d cur (by omega) _ h1

theorem owns_frozen {w : World} {base e size g n cap : Nat} {xs : List Value} (h : w.ownsRow base e size (.slice (some ⟨g, 0, none⟩) n cap) n xs) (i : Nat) : w.frozen? ⟨g, i, none⟩ = false := by
  rcases h.2 with ⟨hv, _⟩ | ⟨g', cap', cur, hv, hb, hh, _⟩
  · cases hv
  · cases hv
    unfold World.frozen?
    rw [hh]; simp

theorem owns_holds {α : Type} [Inhabited α] {enc : α → Value} {w : World} {base e g n cap : Nat} {l : List α} (h : w.ownsRow base e 1 (.slice (some ⟨g, 0, none⟩) n cap) n (l.map enc)) : Holds enc w g 0 l.toArray := by
  intro j hj
  have hj' : j < l.length := by simpa using hj
  have hl := h.1
  refine ⟨?_, owns_frozen h _⟩
  have e1 := h.cellAt j (by rw [List.length_map] at hl; omega)
  rw [Nat.zero_add]
  rw [e1, List.getElem?_map, List.getElem?_eq_getElem hj']
  simp [hj']

end Go.Proofs.YthookkmgmholcaaGreatDoor

/-
  DERIVED: THE SHELF's CONTRACTS AT THIS DUMP, IN PLAIN WORDS (tools/lay-plain.mjs out of 'YthookkmgmholcaaGreatDoorSh1.lean', which tools/lay-shelf.mjs wrote): THE SAME DECLARATIONS UNDER THE SAME NAMES: 'import', 'namespace', 'open', 'def', 'theorem' AND NOTHING ELSE: no command of the shelf's: FOR A HAND-IN. Each laying: the table of numbers ('.._ren') and one theorem, a field a fact of the dump's own or the kernel's comparison; each contract: ONE APPLICATION.
-/
namespace Go.Proofs
open Go.Shelf
def Tryz.delInt_ren : Go.Shelf.Ren := ⟨fun | 10 => 82 | 6 => 111 | n => n, fun | 22 => 65 | 23 => 3 | 25 => 89 | 3 => 3 | 4 => 4 | 0 => 0 | n => n, fun | n => n⟩
theorem Tryz.delInt : Go.Proofs.SlLaysH.n10 Tryz.prog Tryz.delInt_ren := {
  mixed := by kernel_rfl
  f6 := ⟨Tryz.f111.name, by decide, Tryz.func111.trans (congrArg some (by kernel_rfl))⟩
  f10 := ⟨Tryz.f82.name, by decide, Tryz.func82.trans (congrArg some (by kernel_rfl))⟩
  t0 := Tryz.underlying0
  a0 := Tryz.isAgg0
  z0 := Tryz.sizeOf0
  v0 := Tryz.zeroValue0
  t3 := Tryz.underlying3
  a3 := Tryz.isAgg3
  z3 := Tryz.sizeOf3
  v3 := Tryz.zeroValue3
  t4 := Tryz.underlying4
  a4 := Tryz.isAgg4
  z4 := Tryz.sizeOf4
  v4 := Tryz.zeroValue4
  t22 := Tryz.underlying65
  a22 := Tryz.isAgg65
  z22 := Tryz.sizeOf65
  v22 := Tryz.zeroValue65
  a23 := Tryz.isAgg3
  z23 := Tryz.sizeOf3
  t25 := Tryz.underlying89
  a25 := Tryz.isAgg89
  z25 := Tryz.sizeOf89
  v25 := Tryz.zeroValue89 }
def Tryz.cmpInt_ren : Go.Shelf.Ren := ⟨fun | 5 => 132 | 7 => 178 | n => n, fun | 22 => 3 | 3 => 3 | 4 => 4 | n => n, fun | n => n⟩
theorem Tryz.cmpInt : Go.Proofs.SlLaysC2.n5 Tryz.prog Tryz.cmpInt_ren := {
  mixed := by kernel_rfl
  f5 := ⟨Tryz.f132.name, by decide, Tryz.func132.trans (congrArg some (by kernel_rfl))⟩
  f7 := ⟨Tryz.f178.name, by decide, Tryz.func178.trans (congrArg some (by kernel_rfl))⟩
  t3 := Tryz.underlying3
  a3 := Tryz.isAgg3
  z3 := Tryz.sizeOf3
  v3 := Tryz.zeroValue3
  t4 := Tryz.underlying4
  a4 := Tryz.isAgg4
  z4 := Tryz.sizeOf4
  v4 := Tryz.zeroValue4
  t22 := Tryz.underlying3
  a22 := Tryz.isAgg3
  z22 := Tryz.sizeOf3
  v22 := Tryz.zeroValue3 }
end Go.Proofs

/- slices.DeleteFunc at a slice of numbers, as Kill calls it. -/
namespace Go.Proofs.YthookkmgmholcaaGreatDoor
open Go.RowKit Go.Maps Go.WideMaps Go.Sort

theorem kill1_walk (eb : Nat) (b x : Int) (w : World) (hc : w.cell? ⟨eb, 1, none⟩ = some (.int .i64 b)) :
    Calls Tryz.prog 83 #[.int .i64 x, .pointer (some ⟨eb, 0, none⟩)] w fun e w' => e = .returned (.bool (decide (x = b))) ∧ w' = w := by
  by_cases h : x = b
  all_goals
    go_enter Tryz.func83, Tryz.ntmps83
    go_wp2
    go_ret
    refine ⟨?_, rfl⟩
    simp [h]

theorem enters_kill1 : ∀ args w, (callFunc 83 args).run Tryz.prog w = .ok (.enter 83 args) w := enters_of Tryz.func83 (by kernel_rfl) rfl

set_option maxRecDepth 100000 in
set_option maxHeartbeats 1000000 in
theorem delete_nil (n c : Nat) (hn : n = 0) (g : Nat) (lb : Array Value) (w : World) :
    Calls Tryz.prog 82 #[.slice none n c, .func (.func g) #[] lb] w fun r w' => r = .returned (.slice none n c) ∧ w' = w := by
  subst hn
  have hI := AnyE.slices_IndexFunc_empty (P := Tryz.prog) { Tryz.delInt with } none c (.func (.func g) #[] lb) w
  change Calls Tryz.prog 111 _ _ _ at hI
  go_enter Tryz.func82, Tryz.ntmps82
  go_wp2_with (go_at_call 111; refine hI.mono ?_; rintro r w1 ⟨rfl, rfl⟩)
  go_ret
  exact ⟨rfl, rfl⟩

theorem deleteFunc_walk {w : World} {v : Value} {zs : List Int} (h : w.ownsInts 0 3 .i64 v zs) (eb : Nat) (b : Int) (hc : w.cell? ⟨eb, 1, none⟩ = some (.int .i64 b)) (hne : v.ownBlock ≠ some eb) (hsz : zs.length ≤ 1000000000000) :
    Calls Tryz.prog 82 #[v, .func (.func 83) #[] #[.pointer (some ⟨eb, 0, none⟩)]] w fun r w' =>
      ∃ v', r = .returned v' ∧ w'.ownsInts 0 3 .i64 v' (zs.filter fun x => !decide (x = b)) ∧ w.grownBy w' v.ownBlock ∧ v'.ownBlock = v.ownBlock := by
  have hwf : ∀ z ∈ zs.filter (fun x => !decide (x = b)), (Lit.int .i64 z).wf = true := fun z hz => h.2 z (List.mem_filter.1 hz).1
  rcases h.1.2 with ⟨rfl, h0⟩ | ⟨g, cap, cur, rfl, hb, hh, hn, hm, hs, ht⟩
  · have : zs = [] := List.length_eq_zero_iff.1 h0
    subst this
    refine (delete_nil 0 0 rfl _ _ w).mono ?_
    rintro r w' ⟨rfl, rfl⟩
    exact ⟨_, rfl, World.ownsInts_nil _ _ _ _, ⟨rfl, rfl, rfl, Nat.le_refl _, fun _ _ _ => rfl⟩, rfl⟩
  · have hgeb : eb ≠ g := fun e => hne (by rw [e]; rfl)
    have hebl := World.block_lt_of_cell? _ _ hc
    have hH : Holds (Value.int .i64) w g 0 zs.toArray := owns_holds h.1
    have hgl : g < w.heap.size := (Array.getElem?_eq_some_iff.1 hh).1
    have hcon := AnyE.slices_DeleteFunc (P := Tryz.prog) Tryz.delInt (Value.int .i64) (fun _ => rfl) (fun x => decide (x = b)) 83 #[.pointer (some ⟨eb, 0, none⟩)] enters_kill1 0 (fun w => zeroInt w) g 0 cap zs.toArray w
      (fun W x hbw => (kill1_walk eb b x W ((hbw.cell (p := ⟨eb, 1, none⟩) hebl).trans hc)).mono fun _ _ ⟨he, hw⟩ => ⟨he, 0, hw⟩)
      (fun n os dk x _ => (kill1_walk eb b x _ (by
        unfold sortWorld
        rw [cell?_grow _ _ _ (by rw [size_putRow]; exact hebl), cell?_putRow_other _ _ _ _ _ _ (.inl hgeb)]
        exact hc)).mono fun _ _ ⟨he, hw⟩ => ⟨he, 0, hw⟩)
      hH (by simp; omega) (by simpa using hn)
    change Calls Tryz.prog 82 _ _ _ at hcon
    rw [List.size_toArray] at hcon
    refine hcon.mono ?_
    rintro r w' ⟨rfl, q, rfl⟩
    have hlen := List.length_filter_le (fun x => !decide (x = b)) zs
    rw [putRow_enc]
    refine ⟨_, rfl, ⟨?_, hwf⟩, put_grown _ _ _ _ _, rfl⟩
    have := owns_put h.1 q (((zs.filter fun x => !decide (x = b)) ++ List.replicate (zs.length - (zs.filter fun x => !decide (x = b)).length) 0).toArray.map (Value.int .i64)) (n' := (zs.filter fun x => !decide (x = b)).length) (by simp) (by simp; omega) hlen
    simpa using this

end Go.Proofs.YthookkmgmholcaaGreatDoor

/- (*Mesh).Kill. -/
namespace Go.Proofs.YthookkmgmholcaaGreatDoor
open Go.RowKit Go.Maps Go.WideMaps

theorem round_del {w wr W W2 W2' W3 W4 : World} {mb ba bs bf n : Nat} {pv : Value} {sv : Int → Option Value} {M : MeshM} {F : Nat → Prop}
    (h : MeshParts wr mb ba bs bf n pv sv M (fun i => F i ∨ (w.heap.size ≤ i ∧ i < wr.heap.size))) (hst : Stay F w wr) (hF : ∀ i, F i → i < w.heap.size)
    {x y : Int} (b01 : Below wr.heap.size wr W) (g12 : W.grownBy W2 (some ba)) (hap : FMap Tryz.prog W2 94 ba n (delV (edgeV M.ap) (kE x y)))
    (b22 : Below W2.heap.size W2 W2') (v' : Value) (g23 : W2'.grownBy W3 (atSv sv x).ownBlock) (hrow : W3.ownsInts 0 3 .i64 v' ((M.sp x).filter fun x => !decide (x = y)))
    (hloc : v'.ownBlock = (atSv sv x).ownBlock) (hsp : FMap Tryz.prog W4 3 bs (n + 1) (updV (intV sv) (vI x) v')) (g34 : W3.grownBy W4 (some bs)) :
    MeshParts W4 mb ba bs bf (n + 1) pv (upI sv x (some v')) (dropE M x y) (fun i => F i ∨ (w.heap.size ≤ i ∧ i < W4.heap.size)) ∧ Stay F w W4 := by
  rw [edgeV_del] at hap
  obtain ⟨p, st⟩ := step_gen h b01 g12 (hap.mono (Nat.le_succ n)) b22 v' g23 hrow (.inl hloc) (Nat.le_trans (List.length_filter_le _ _) (Nat.le_trans (h.spl x) (Nat.le_succ n))) hsp g34
  have hs := st.size
  have hs0 := hst.size
  refine ⟨p.wider (fun g hg => ?_) (fun g hg => ?_), hst.trans (st.mono fun i hi => ?_)⟩
  · rcases hg with (hg | hg) | hg
    · exact .inl hg
    · exact .inr ⟨hg.1, by omega⟩
    · exact .inr ⟨by omega, hg.2⟩
  · rcases hg with hg | hg
    · have := hF g hg; omega
    · exact hg.2
  · rcases hi with hi | hi
    · exact .inl hi
    · exact .inr hi.1

/-- the three corners, by number -/
def triI (a b c : Int) (k : Nat) : Int := if k = 0 then a else if k = 1 then b else if k = 2 then c else if k = 3 then a else b
/-- the mesh behind k edges -/
def Dk (M : MeshM) (a b c : Int) : Nat → MeshM
  | 0 => M
  | k + 1 => dropE (Dk M a b c k) (triI a b c k) (triI a b c (k + 1))
theorem Dk_cnt (M : MeshM) (a b c : Int) (k : Nat) : (Dk M a b c k).cnt = M.cnt := by induction k with | zero => rfl | succ k ih => exact ih

set_option maxRecDepth 100000 in
set_option maxHeartbeats 1000000 in
theorem kill_none {w : World} {mb n : Nat} {M : MeshM} {F : Nat → Prop} (h : MeshAt w mb n M F) {a b c : Int} (ha : i64ok a) (hb : i64ok b) (hk : M.ap a b ≠ some c) :
    Calls Tryz.prog 44 #[.pointer (some ⟨mb, 0, none⟩), .int .i64 a, .int .i64 b, .int .i64 c] w fun r w' => r = .returned (.int .i64 5) ∧ w' = w := by
  obtain ⟨ba, bs, bf, pv, sv, h⟩ := h
  have c1 := h.c1
  have HF := Lib.hid h.apm
  have HK := Lib.hid (keyE ha hb)
  have HV := Lib.hid (edgeV_getD M.ap a b)
  have HI := Lib.hid (edgeV_isSome M.ap a b)
  clear h ha hb
  generalize M.ap a b = o at *
  cases o with
  | none =>
    go_enter Tryz.func44, Tryz.ntmps44
    go_wp2_with (at_lookup; refine wp_look_ok _ rfl _ _ 90 rfl 94 3 edgeLaw Tryz.underlying90 (.int .i64 0) (zeroInt _) ba n _ rfl HF.out _ rfl _ HK.out _ HV.out _ HI.out ?_)
    go_ret
    exact ⟨rfl, rfl⟩
  | some v =>
    have hvc : v ≠ c := fun e => hk (by rw [e])
    go_enter Tryz.func44, Tryz.ntmps44
    go_wp2_with (at_lookup; refine wp_look_ok _ rfl _ _ 90 rfl 94 3 edgeLaw Tryz.underlying90 (.int .i64 0) (zeroInt _) ba n _ rfl HF.out _ rfl _ HK.out _ HV.out _ HI.out ?_)
    go_ret
    exact ⟨rfl, rfl⟩

end Go.Proofs.YthookkmgmholcaaGreatDoor

/- (*Mesh).Kill: a triangle goes. -/
namespace Go.Proofs.YthookkmgmholcaaGreatDoor
open Go.RowKit Go.Maps Go.WideMaps

set_option maxRecDepth 100000 in
set_option maxHeartbeats 4000000 in
theorem kill_some {w : World} {mb n : Nat} {M : MeshM} {F : Nat → Prop} (h : MeshAt w mb n M F) (hn : n ≤ 1000000000) {a b c : Int} (ha : i64ok a) (hb : i64ok b) (hc : i64ok c) (hk : M.ap a b = some c) :
    Calls Tryz.prog 44 #[.pointer (some ⟨mb, 0, none⟩), .int .i64 a, .int .i64 b, .int .i64 c] w fun r w' =>
      r = .returned (.int .i64 0) ∧ MeshAt w' mb (n + 3) (killM M a b c) (fun i => F i ∨ (w.heap.size ≤ i ∧ i < w'.heap.size)) ∧ Stay F w w' := by
  obtain ⟨ba, bs, bf, pv, sv, h⟩ := h
  have c1 := h.c1
  have HL := Lib.hid (lookE h.apm ha hb)
  rw [hk] at HL
  have HAR := Lib.hid (around_walk a b c w)
  have HP := Lib.hid h
  have HE0 := Lib.hid ha
  have HE1 := Lib.hid hb
  have HE2 := Lib.hid hc
  clear h ha hb hc hk
  have hl := HL.out
  simp only [Option.getD_some, Option.isSome_some] at hl
  have hi0 := idx3_0 (.int .i64 a) (.int .i64 b) (.int .i64 b) (.int .i64 c) (.int .i64 c) (.int .i64 a)
  have hi1 := idx3_1 (.int .i64 a) (.int .i64 b) (.int .i64 b) (.int .i64 c) (.int .i64 c) (.int .i64 a)
  have hi2 := idx3_2 (.int .i64 a) (.int .i64 b) (.int .i64 b) (.int .i64 c) (.int .i64 c) (.int .i64 a)
  go_enter Tryz.func44, Tryz.ntmps44
  go_wp2_with (go_at_call 81; refine HAR.out.mono ?_; rintro r w1 ⟨rfl, hb1⟩)
  have HB1 := Lib.hid hb1
  clear HAR hb1 c1 hl HL
  go_loopw [37] (fun i wq => ∃ (k : Nat) (sv' : Int → Option Value), k ≤ 3 ∧ i = .int .i64 k ∧ Hid (MeshParts wq mb ba bs bf (n + k) pv sv' (Dk M a b c k) (fun i => F i ∨ (w.heap.size ≤ i ∧ i < wq.heap.size))) ∧ Hid (Stay F w wq)) (fun i _ => 3 - (intOf i).toNat)
  case atStart =>
    refine ⟨0, sv, by omega, rfl, (HP.out.below HB1.out).wider (fun g hg => .inl hg) (fun g hg => ?_), Stay.of_below HB1.out⟩
    rcases hg with hg | hg
    · exact Nat.lt_of_lt_of_le (HP.out.flt g hg) HB1.out.size
    · exact hg.2
  case round =>
    obtain ⟨k, sv', hk, rfl, HQ, HS2⟩ := hrel
    by_cases hlt : k < 3
    · have hk3 : k = 0 ∨ k = 1 ∨ k = 2 := by omega
      obtain ⟨W, hW⟩ : ∃ W, W = wr.alloc (.cells #[.int .i64 (triI a b c k), .int .i64 (triI a b c (k + 1))] 94) := ⟨_, rfl⟩
      have HBW : Hid (Below wr.heap.size wr W) := by rw [hW]; exact (Below.refl _ _).alloc (Nat.le_refl _) _
      have e0 : W.cell? ⟨wr.heap.size, 0, none⟩ = some (.int .i64 (triI a b c k)) := by rw [hW, World.cell?_alloc_at _ _ _ _ rfl]; rfl
      have e1 : W.cell? ⟨wr.heap.size, 1, none⟩ = some (.int .i64 (triI a b c (k + 1))) := by rw [hW, World.cell?_alloc_at _ _ _ _ rfl]; rfl
      have c1 := (HQ.out.below HBW.out).c1
      have c2 := (HQ.out.below HBW.out).c2
      have HAP := Lib.hid (HQ.out.below HBW.out.drew).apm
      have HW := Lib.hid hW
      have HKX : Hid (i64ok (triI a b c k : Int)) := by rcases hk3 with rfl | rfl | rfl <;> first | exact HE0.out | exact HE1.out | exact HE2.out
      have HKY : Hid (i64ok (triI a b c (k + 1) : Int)) := by rcases hk3 with rfl | rfl | rfl <;> first | exact HE0.out | exact HE1.out | exact HE2.out
      have HK := Lib.hid (keyE HKX.out HKY.out)
      have HSP := Lib.hid (HQ.out.below HBW.out).spm
      have HROW := Lib.hid ((HQ.out.below HBW.out).rows.at (triI a b c k))
      have HRB := Lib.hid ((HQ.out.below HBW.out).row_ne (HQ.out.below HBW.out.drew).apm (triI a b c k))
      have HRF := Lib.hid (HQ.out.row_facts (triI a b c k))
      have HSL := Lib.hid (HQ.out.spl (triI a b c k))
      have HNE : Hid (mb ≠ ba ∧ bs ≠ ba ∧ wr.heap.size ≠ ba) := ⟨HQ.out.mb_ne HQ.out.apm, Ne.symm HQ.out.nab, fun e => by have := HQ.out.apm.lt; omega⟩
      clear hW
      rcases hk3 with rfl | rfl | rfl
      · simp [triI] at c1 e0 e1 HK HAP HSP HROW HRB HRF HSL HKX
        go_wp2
        have hW' := HW.out
        simp [triI] at hW'
        rw [← hW']
        clear hW'
        go_still_tail 5, (by kernel_rfl)
        clear c1
        go_wp2_with (at_delete; refine wp_delete _ rfl _ _ 90 94 rfl 3 edgeLaw Tryz.underlying90 ba _ _ rfl HAP.out _ rfl _ HK.out ?_; intro W2 hap2 hg2)
        go_frame
        have HG2 : Hid (W.grownBy W2 (some ba)) := grown_drew (w := W) hg2
        have HAP2 := Lib.hid hap2
        clear hap2 hg2
        have n2 : Reads3 W2.drew mb bs wr.heap.size (.int .i64 a) (.int .i64 b) := Reads3.grown (w := W) (w' := W2) ⟨c2, e0, e1⟩ HG2.out (by simpa using HNE.out.1) (by simpa using HNE.out.2.2)
        have HSP2 := Lib.hid (FMap.kept HSP.out HG2.out (by simpa using HNE.out.2.1))
        have hS2 := lookS (w := W2.drew) HSP2.out HKX.out
        have HOI := Lib.hid (World.ownsInts.kept HROW.out HG2.out (.inr HRB.out))
        have HD := Lib.hid (deleteFunc_walk (w := W2.drew) HOI.out wr.heap.size b n2.2.2 HRF.out.2.1 (by have := HSL.out; omega))
        clear c2 e0 e1
        go_region_held3 (fun w' => w'.cell? ⟨mb, 2, none⟩ = some (.map (some bs)) ∧ w'.cell? ⟨wr.heap.size, 0, none⟩ = some (.int .i64 a) ∧ w'.cell? ⟨wr.heap.size, 1, none⟩ = some (.int .i64 b)) (first | assumption | exact n2 | exact n3 | exact n4)
          (first
            | (go_at_call 82; refine HD.out.mono ?_
               rintro r W3 ⟨v3, rfl, hown3, hg3, hloc3⟩
               have n3 := Reads3.grown n2 hg3 (fun e => HRF.out.1 e.symm) (fun e => HRF.out.2.1 e.symm)
               obtain ⟨W4, hrun4, hsp4, hg4⟩ := FMap.store (key := .int .i64 a) (FMap.kept HSP2.out.drew hg3 (fun e => HRF.out.2.2.1 e.symm)) intLaw Tryz.underlying91 (by unfold maxLen; omega) (keyI HKX.out) v3
               have n4 := Reads3.grown n3 hg4 (by simpa using HRF.out.2.2.2.1) (by simpa using HRF.out.2.2.2.2)))
        all_goals
          go_wp2
          obtain ⟨p1, p2⟩ := round_del (n := n + 0) (M := Dk M a b c 0) HQ.out HS2.out HP.out.flt HBW.out HG2.out HAP2.out ((Below.refl _ W2).drew) v3 hg3 hown3 hloc3 hsp4 hg4
          refine ⟨?_, ?_⟩
          · exact ⟨1, _, by omega, rfl, p1, p2⟩
          · simp [intOf]
      · simp [triI] at c1 e0 e1 HK HAP HSP HROW HRB HRF HSL HKX
        go_wp2
        have hW' := HW.out
        simp [triI] at hW'
        rw [← hW']
        clear hW'
        go_still_tail 5, (by kernel_rfl)
        clear c1
        go_wp2_with (at_delete; refine wp_delete _ rfl _ _ 90 94 rfl 3 edgeLaw Tryz.underlying90 ba _ _ rfl HAP.out _ rfl _ HK.out ?_; intro W2 hap2 hg2)
        go_frame
        have HG2 : Hid (W.grownBy W2 (some ba)) := grown_drew (w := W) hg2
        have HAP2 := Lib.hid hap2
        clear hap2 hg2
        have n2 : Reads3 W2.drew mb bs wr.heap.size (.int .i64 b) (.int .i64 c) := Reads3.grown (w := W) (w' := W2) ⟨c2, e0, e1⟩ HG2.out (by simpa using HNE.out.1) (by simpa using HNE.out.2.2)
        have HSP2 := Lib.hid (FMap.kept HSP.out HG2.out (by simpa using HNE.out.2.1))
        have hS2 := lookS (w := W2.drew) HSP2.out HKX.out
        have HOI := Lib.hid (World.ownsInts.kept HROW.out HG2.out (.inr HRB.out))
        have HD := Lib.hid (deleteFunc_walk (w := W2.drew) HOI.out wr.heap.size c n2.2.2 HRF.out.2.1 (by have := HSL.out; omega))
        clear c2 e0 e1
        go_region_held3 (fun w' => w'.cell? ⟨mb, 2, none⟩ = some (.map (some bs)) ∧ w'.cell? ⟨wr.heap.size, 0, none⟩ = some (.int .i64 b) ∧ w'.cell? ⟨wr.heap.size, 1, none⟩ = some (.int .i64 c)) (first | assumption | exact n2 | exact n3 | exact n4)
          (first
            | (go_at_call 82; refine HD.out.mono ?_
               rintro r W3 ⟨v3, rfl, hown3, hg3, hloc3⟩
               have n3 := Reads3.grown n2 hg3 (fun e => HRF.out.1 e.symm) (fun e => HRF.out.2.1 e.symm)
               obtain ⟨W4, hrun4, hsp4, hg4⟩ := FMap.store (key := .int .i64 b) (FMap.kept HSP2.out.drew hg3 (fun e => HRF.out.2.2.1 e.symm)) intLaw Tryz.underlying91 (by unfold maxLen; omega) (keyI HKX.out) v3
               have n4 := Reads3.grown n3 hg4 (by simpa using HRF.out.2.2.2.1) (by simpa using HRF.out.2.2.2.2)))
        all_goals
          go_wp2
          obtain ⟨p1, p2⟩ := round_del (n := n + 1) (M := Dk M a b c 1) HQ.out HS2.out HP.out.flt HBW.out HG2.out HAP2.out ((Below.refl _ W2).drew) v3 hg3 hown3 hloc3 hsp4 hg4
          refine ⟨?_, ?_⟩
          · exact ⟨2, _, by omega, rfl, p1, p2⟩
          · simp [intOf]
      · simp [triI] at c1 e0 e1 HK HAP HSP HROW HRB HRF HSL HKX
        go_wp2
        have hW' := HW.out
        simp [triI] at hW'
        rw [← hW']
        clear hW'
        go_still_tail 5, (by kernel_rfl)
        clear c1
        go_wp2_with (at_delete; refine wp_delete _ rfl _ _ 90 94 rfl 3 edgeLaw Tryz.underlying90 ba _ _ rfl HAP.out _ rfl _ HK.out ?_; intro W2 hap2 hg2)
        go_frame
        have HG2 : Hid (W.grownBy W2 (some ba)) := grown_drew (w := W) hg2
        have HAP2 := Lib.hid hap2
        clear hap2 hg2
        have n2 : Reads3 W2.drew mb bs wr.heap.size (.int .i64 c) (.int .i64 a) := Reads3.grown (w := W) (w' := W2) ⟨c2, e0, e1⟩ HG2.out (by simpa using HNE.out.1) (by simpa using HNE.out.2.2)
        have HSP2 := Lib.hid (FMap.kept HSP.out HG2.out (by simpa using HNE.out.2.1))
        have hS2 := lookS (w := W2.drew) HSP2.out HKX.out
        have HOI := Lib.hid (World.ownsInts.kept HROW.out HG2.out (.inr HRB.out))
        have HD := Lib.hid (deleteFunc_walk (w := W2.drew) HOI.out wr.heap.size a n2.2.2 HRF.out.2.1 (by have := HSL.out; omega))
        clear c2 e0 e1
        go_region_held3 (fun w' => w'.cell? ⟨mb, 2, none⟩ = some (.map (some bs)) ∧ w'.cell? ⟨wr.heap.size, 0, none⟩ = some (.int .i64 c) ∧ w'.cell? ⟨wr.heap.size, 1, none⟩ = some (.int .i64 a)) (first | assumption | exact n2 | exact n3 | exact n4)
          (first
            | (go_at_call 82; refine HD.out.mono ?_
               rintro r W3 ⟨v3, rfl, hown3, hg3, hloc3⟩
               have n3 := Reads3.grown n2 hg3 (fun e => HRF.out.1 e.symm) (fun e => HRF.out.2.1 e.symm)
               obtain ⟨W4, hrun4, hsp4, hg4⟩ := FMap.store (key := .int .i64 c) (FMap.kept HSP2.out.drew hg3 (fun e => HRF.out.2.2.1 e.symm)) intLaw Tryz.underlying91 (by unfold maxLen; omega) (keyI HKX.out) v3
               have n4 := Reads3.grown n3 hg4 (by simpa using HRF.out.2.2.2.1) (by simpa using HRF.out.2.2.2.2)))
        all_goals
          go_wp2
          obtain ⟨p1, p2⟩ := round_del (n := n + 2) (M := Dk M a b c 2) HQ.out HS2.out HP.out.flt HBW.out HG2.out HAP2.out ((Below.refl _ W2).drew) v3 hg3 hown3 hloc3 hsp4 hg4
          refine ⟨?_, ?_⟩
          · exact ⟨3, _, by omega, rfl, p1, p2⟩
          · simp [intOf]
    · have e : k = 3 := by omega
      subst e
      have c3 := HQ.out.c3
      have fz := HQ.out.fz 3
      have HCB := Lib.hid HQ.out.cb
      have HCM := Lib.hid (Dk_cnt M a b c 3)
      have HCP := Lib.hid HP.out.cb
      have hwr : IntKind.i64.wrap ((Dk M a b c 3).cnt - 1) = (Dk M a b c 3).cnt - 1 := by
        have := HCB.out
        simp [IntKind.wrap, IntKind.bits, IntKind.signed]; omega
      clear hlt hk
      go_wp2
      go_ret
      obtain ⟨q1, q2⟩ := cnt_parts HQ.out ((Dk M a b c 3).cnt - 1) (by have := HCM.out; have := HCP.out; omega)
      refine ⟨rfl, ⟨ba, bs, bf, pv, sv', ?_⟩, HS2.out.trans (q2.mono fun i hi => hi.elim .inl (fun e => .inr e.1))⟩
      rw [HCM.out] at q1
      refine q1.wider (fun g hg => ?_) (fun g hg => ?_)
      · rcases hg with hg | hg
        · exact .inl hg
        · exact .inr ⟨hg.1, by rw [World.size_setCell]; exact hg.2⟩
      · rcases hg with hg | hg
        · rw [World.size_setCell]; exact Nat.lt_of_lt_of_le (HP.out.flt g hg) HS2.out.size
        · exact hg.2

theorem kill_walk {w : World} {mb n : Nat} {M : MeshM} {F : Nat → Prop} (h : MeshAt w mb n M F) (hn : n ≤ 1000000000) {a b c : Int} (ha : i64ok a) (hb : i64ok b) (hc : i64ok c) :
    Calls Tryz.prog 44 #[.pointer (some ⟨mb, 0, none⟩), .int .i64 a, .int .i64 b, .int .i64 c] w fun r w' =>
      r = .returned (.int .i64 (killCode M a b c)) ∧ MeshAt w' mb (n + 3) (killR M a b c) (fun i => F i ∨ (w.heap.size ≤ i ∧ i < w'.heap.size)) ∧ Stay F w w' := by
  unfold killCode killR
  by_cases hk : M.ap a b = some c
  · rw [if_pos hk, if_pos hk]
    exact kill_some h hn ha hb hc hk
  · rw [if_neg hk, if_neg hk]
    refine (kill_none h ha hb hk).mono ?_
    rintro r w' ⟨rfl, rfl⟩
    exact ⟨rfl, h.stays (Below.refl _ _) (by omega), Stay.refl _ _⟩

end Go.Proofs.YthookkmgmholcaaGreatDoor
