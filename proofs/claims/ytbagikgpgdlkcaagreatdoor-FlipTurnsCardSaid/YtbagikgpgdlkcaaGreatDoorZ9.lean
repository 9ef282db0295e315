/- Part of the proof. No conditions. -/
import Derived.Test.YtbagikgpgdlkcaaGreatDoorZ8
import Derived.Sort.Grow
import Derived.Deep.AppendLies
set_option linter.all false
set_option maxHeartbeats 8000000
set_option maxRecDepth 100000
namespace Go.Proofs.YtbagikgpgdlkcaaGreatDoor
open Go.RowKit Go.Maps Go.WideMaps Go.Sort
theorem heap_mapBlock_other (w : World) (blk : Nat) (f : Array Value → Array Value) {i : Nat} (h : i ≠ blk) : (mapBlock w blk f).heap[i]? = w.heap[i]? := by
 unfold mapBlock; simp [Array.getElem?_modify,Ne.symm h]
theorem heap_mapBlock_same {w : World} {blk : Nat} {f : Array Value → Array Value} {c : Array Value} {e : TypeId} {fr : Nat × Nat} (h : w.heap[blk]? = some (.cells c e fr)) : (mapBlock w blk f).heap[blk]? = some (.cells (f c) e fr) := by
 unfold mapBlock; simp [Array.getElem?_modify,h,onCells]
theorem putCells_enc {α : Type} [Inhabited α] (enc : α → Value) (off : Nat) (d : Array α) : putCells enc off d = putCells id off (d.map enc) := by
 funext c
 unfold putCells
 apply Array.ext_getElem?
 intro k
 simp only [Array.getElem?_mapIdx,Array.size_map]
 cases c[k]? with
 | none => rfl
 | some x =>
  simp only [Option.map_some]
  split
  ·rename_i h
   have h1 : k - off < d.size := by omega
   rw [getElem!_pos d _ h1,getElem!_pos (d.map enc) _ (by simpa using h1)]
   simp
  ·rfl
theorem putRow_enc {α : Type} [Inhabited α] (enc : α → Value) (w : World) (blk off : Nat) (d : Array α) : putRow enc w blk off d = putRow id w blk off (d.map enc) := by
 unfold putRow; rw [putCells_enc]
theorem put_grown (w : World) (q blk off : Nat) (d : Array Value) : w.grownBy (putRow id (Sort.ahead w q) blk off d) (some blk) := by
 refine ⟨rfl,rfl,rfl,by rw [size_putRow]; exact Nat.le_refl _,fun k _ hk => ?_⟩
 unfold putRow
 rw [heap_mapBlock_other _ _ _ (fun e => hk (by rw [e]))]
 rfl
theorem putCells_take (d c : Array Value) (h : d.size ≤ c.size) (k : Nat) (hk : k ≤ d.size) : (putCells id 0 d c).toList.take k = d.toList.take k := by
 apply List.ext_getElem?
 intro i
 rw [List.getElem?_take,List.getElem?_take]
 split
 ·rename_i hi
  rw [Array.getElem?_toList,Array.getElem?_toList]
  unfold putCells
  rw [Array.getElem?_mapIdx,Array.getElem?_eq_getElem (show i < c.size by omega),Option.map_some,if_pos (by omega),Nat.sub_zero,Array.getElem?_eq_getElem (show i < d.size by omega),getElem!_pos d i (by omega)]
  rfl
 ·rfl
theorem owns_put {w : World} {e size g n n' cap base : Nat} {xs : List Value} (h : w.ownsRow base e size (.slice (some ⟨g,0,none⟩) n cap) n xs) (q : Nat) (d : Array Value) (h1 : n' * size ≤ d.size) (h2 : d.size ≤ n * size) (h3 : n' ≤ n) :
  (putRow id (Sort.ahead w q) g 0 d).ownsRow base e size (.slice (some ⟨g,0,none⟩) n' cap) n' (d.toList.take (n' * size)) := by
 rcases h.2 with ⟨hv,_⟩ | ⟨g', cap', cur,hv,hb,hh,hn,hm,hs,ht⟩
 ·cases hv
 ·cases hv
  have hc : n * size ≤ cap * size := Nat.mul_le_mul_right _ hn
  refine ⟨by rw [List.length_take,Array.length_toList]; omega,.inr ⟨g,cap,putCells id 0 d cur,rfl,hb,heap_mapBlock_same hh,by omega,hm,?_,?_⟩⟩
  ·unfold putCells; rw [Array.size_mapIdx]; exact hs
  ·exact putCells_take d cur (by omega) _ h1
theorem owns_frozen {w : World} {base e size g n cap : Nat} {xs : List Value} (h : w.ownsRow base e size (.slice (some ⟨g,0,none⟩) n cap) n xs) (i : Nat) : w.frozen? ⟨g,i,none⟩ = false := by
 rcases h.2 with ⟨hv,_⟩ | ⟨g', cap', cur,hv,hb,hh,_⟩
 ·cases hv
 ·cases hv
  unfold World.frozen?
  rw [hh]; simp
theorem owns_holds {α : Type} [Inhabited α] {enc : α → Value} {w : World} {base e g n cap : Nat} {l : List α} (h : w.ownsRow base e 1 (.slice (some ⟨g,0,none⟩) n cap) n (l.map enc)) : Holds enc w g 0 l.toArray := by
 intro j hj
 have hj' : j < l.length := by simpa using hj
 have hl := h.1
 refine ⟨?_,owns_frozen h _⟩
 have e1 := h.cellAt j (by rw [List.length_map] at hl; omega)
 rw [Nat.zero_add]
 rw [e1,List.getElem?_map,List.getElem?_eq_getElem hj']
 simp [hj']
end Go.Proofs.YtbagikgpgdlkcaaGreatDoor
namespace Go.Proofs.YtbagikgpgdlkcaaGreatDoor
open Go.RowKit Go.Maps Go.WideMaps
def addE (M : MeshM) (a b c : Int) : MeshM := { M with ap := upE M.ap a b c,sp := upI M.sp a (M.sp a ++ [b]) }
def atSv (sv : Int → Option Value) (a : Int) : Value := (sv a).getD (.slice none 0 0)
theorem SpokeRows.at {w : World} {sv : Int → Option Value} {sp : Int → List Int} {F av : Nat → Prop} (h : SpokeRows w sv sp F av) (a : Int) : w.ownsInts 0 3 .i64 (atSv sv a) (sp a) := by
 unfold atSv
 cases hs : sv a with
 | none => rw [h.none a hs]; exact World.ownsInts_nil _ _ _ _
 | some v => exact h.own a v hs
theorem atSv_block {sv : Int → Option Value} {a : Int} {g : Nat} (h : (atSv sv a).ownBlock = some g) : ∃ v,sv a = some v ∧ v.ownBlock = some g ∧ atSv sv a = v := by
 unfold atSv at *
 cases hs : sv a with
 | none => rw [hs] at h; simp [Value.ownBlock] at h
 | some v => rw [hs] at h; exact ⟨v,rfl,h,rfl⟩
theorem upI_same {α : Type} (f : Int → α) (a : Int) (v : α) : upI f a v a = v := by simp [upI]
theorem upI_other {α : Type} (f : Int → α) {a x : Int} (v : α) (h : x ≠ a) : upI f a v x = f x := by simp [upI,h]
theorem step_parts {wr W1 W2 W2' W3 W4 : World} {mb ba bs bf n : Nat} {pv : Value} {sv : Int → Option Value} {M : MeshM} {F : Nat → Prop} (h : MeshParts wr mb ba bs bf n pv sv M F) {x y z : Int} (hy : i64ok y)
  (b01 : Below wr.heap.size wr W1) (g12 : W1.grownBy W2 (some ba)) (hap : FMap Tryz.prog W2 80 ba (n + 1) (updV (edgeV M.ap) (kE x y) (vI z)))
  (b22 : Below W2.heap.size W2 W2') (v' : Value) (g23 : W2'.grownBy W3 (atSv sv x).ownBlock) (hrow : W3.ownsRow 0 3 1 v' ((M.sp x).length + 1) ((M.sp x).map (Value.int .i64) ++ [.int .i64 y]))
  (hloc : v'.ownBlock = (atSv sv x).ownBlock ∨ v'.ownBlock = some W2'.heap.size)
  (hsp : FMap Tryz.prog W4 3 bs (n + 1) (updV (intV sv) (vI x) v')) (g34 : W3.grownBy W4 (some bs)) :
  MeshParts W4 mb ba bs bf (n + 1) pv (upI sv x (some v')) (addE M x y z) (fun i => F i ∨ (wr.heap.size ≤ i ∧ i < W4.heap.size)) ∧ Stay F wr W4 := by
 have s1 := b01.size
 have s2 := g12.size
 have s3 := b22.size
 have s4 := g23.size
 have s5 := g34.size
 have hba := h.flt ba h.fba
 have hbs := h.flt bs h.fbs
 have hbf := h.flt bf h.fbf
 have hmb := h.flt mb h.fmb
 have old : ∀ i,i < wr.heap.size → i ≠ ba → i ≠ bs → (atSv sv x).ownBlock ≠ some i → W4.heap[i]? = wr.heap[i]? := by
  intro i hi h1 h2 h3
  rw [g34.block i (by omega) (by simpa using h2),g23.block i (by omega) (fun e => h3 e.symm),b22.block i (by omega),g12.block i (by omega) (by simpa using h1),b01.block i hi]
 have rowF : ∀ g,(atSv sv x).ownBlock = some g → F g ∧ g ≠ mb ∧ pv.ownBlock ≠ some g ∧ g < wr.heap.size := by
  intro g hg
  obtain ⟨v,hv,hvg,_⟩ := atSv_block hg
  have := h.rows.inF x v g hv hvg
  exact ⟨this.1,fun e => this.2 (.inl e),fun e => this.2 (.inr e),h.flt g this.1⟩
 have rowCells : ∀ a v g,sv a = some v → v.ownBlock = some g → ∃ cur e,wr.heap[g]? = some (.cells cur e (0,0)) := by
  intro a v g hv hg
  rcases (h.rows.own a v hv).1.2 with ⟨rfl,_⟩ | ⟨g', cap,cur,rfl,_,hh,_⟩
  ·simp [Value.ownBlock] at hg
  ·simp [Value.ownBlock] at hg; subst hg; exact ⟨cur,_,hh⟩
 have isMap : ∀ {k : TypeId} {b n : Nat} {f : Value → Option Value},FMap Tryz.prog wr k b n f → ∀ a v,sv a = some v → v.ownBlock ≠ some b := by
  intro k b n f hf a v hv e
  obtain ⟨cur,ty,h1⟩ := rowCells a v b hv e
  obtain ⟨es,cl,h2⟩ := hf.isMap
  rw [h1] at h2; cases h2
 have rowNe : ∀ {k : TypeId} {b n : Nat} {f : Value → Option Value},FMap Tryz.prog wr k b n f → (atSv sv x).ownBlock ≠ some b := by
  intro k b n f hf e
  obtain ⟨v,hv,hvg,_⟩ := atSv_block e
  exact isMap hf x v hv hvg
 have mbMap : ∀ {k : TypeId} {b n : Nat} {f : Value → Option Value},FMap Tryz.prog wr k b n f → mb ≠ b := by
  intro k b n f hf e
  subst e
  obtain ⟨es,cl,h2⟩ := hf.isMap
  have := h.c0
  simp [World.cell?,h2] at this
 have pvMap : ∀ {k : TypeId} {b n : Nat} {f : Value → Option Value},FMap Tryz.prog wr k b n f → pv.ownBlock ≠ some b := by
  intro k b n f hf e
  rcases h.pts.2 with ⟨h1,_⟩ | ⟨g', cap,cur,h1,_,hh,_⟩
  ·rw [h1] at e; simp [Value.ownBlock] at e
  ·rw [h1] at e; simp [Value.ownBlock] at e; subst e
   obtain ⟨es,cl,h2⟩ := hf.isMap
   rw [hh] at h2; cases h2
 have mbOld : W4.heap[mb]? = wr.heap[mb]? := old mb hmb (mbMap h.apm) (mbMap h.spm) (fun e => (rowF mb e).2.1 rfl)
 have bfOld : W4.heap[bf]? = wr.heap[bf]? := old bf hbf (Ne.symm h.naf) (Ne.symm h.nsf) (rowNe h.fxm)
 have hc : ∀ i,W4.cell? ⟨mb,i,none⟩ = wr.cell? ⟨mb,i,none⟩ := fun i => World.cell?_of_block mbOld
 have hv'F : ∀ g,v'.ownBlock = some g → (F g ∨ (wr.heap.size ≤ g ∧ g < W4.heap.size)) ∧ g ≠ mb ∧ pv.ownBlock ≠ some g := by
  intro g hg
  rcases hloc with e | e
  ·have := rowF g (e ▸ hg); exact ⟨.inl this.1,this.2.1,this.2.2.1⟩
  ·rw [hg] at e; cases e
   have hlt := hrow.lt _ hg
   refine ⟨.inr ⟨by omega,by omega⟩,by omega,fun e => ?_⟩
   have := h.flt _ (h.fpv _ e); omega
 refine ⟨⟨(hc 0).trans h.c0,(hc 1).trans h.c1,(hc 2).trans h.c2,(hc 3).trans h.c3,(hc 4).trans h.c4,fun i => (World.frozen?_of_block mbOld).trans (h.fz i),?_,?_,?_,?_,?_,h.nab,h.naf,h.nsf,h.npm,.inl h.fmb,.inl h.fba,.inl h.fbs,.inl h.fbf,fun g hg => .inl (h.fpv g hg),?_,?_,by have := h.cb; show -((n + 1 : Nat) : Int) ≤ M.cnt ∧ M.cnt ≤ ((n + 1 : Nat) : Int); omega⟩,?_⟩
 ·exact ownsRow_same h.pts fun g hg => old g (h.flt g (h.fpv g hg)) (fun e => pvMap h.apm (e ▸ hg)) (fun e => pvMap h.spm (e ▸ hg)) (fun e => (rowF g e).2.2.1 hg)
 ·have : FMap Tryz.prog W4 80 ba (n + 1) (updV (edgeV M.ap) (kE x y) (vI z)) := by
   refine hap.same ?_
   rw [g34.block ba (by omega) (by simpa using h.nab),g23.block ba (by omega) (fun e => rowNe h.apm e.symm),b22.block ba (by omega)]
  rw [edgeV_up] at this
  exact this
 ·have := hsp
  rw [intV_up] at this
  exact this
 ·exact (h.fxm.mono (Nat.le_succ n)).same bfOld
 ·refine ⟨fun a ha => ?_,fun a v hv => ?_,fun a a' v u hne hv hu => ?_,fun a v g hv hg => ?_⟩
  ·by_cases e : a = x
   ·subst e; rw [upI_same] at ha; cases ha
   ·rw [upI_other _ _ e] at ha
    show upI M.sp x _ a = []
    rw [upI_other _ _ e]; exact h.rows.none a ha
  ·by_cases e : a = x
   ·subst e; rw [upI_same] at hv; cases hv
    show W4.ownsInts 0 _ _ v' (upI M.sp a _ a)
    rw [upI_same]
    refine ⟨?_,?_⟩
    ·have hh : W4.ownsRow 0 3 1 v' ((M.sp a).length + 1) ((M.sp a).map (Value.int .i64) ++ [.int .i64 y]) := by
      refine ownsRow_same hrow fun g hg => g34.block g (hrow.lt g hg).2 ?_
      intro e
      simp only [Option.some.injEq] at e
      subst e
      rcases hloc with e | e
      ·exact rowNe h.spm (e ▸ hg)
      ·rw [hg] at e; cases e; omega
     simpa using hh
    ·intro q hq
     rcases List.mem_append.1 hq with hq | hq
     ·exact (h.rows.at a).2 q hq
     ·simp at hq; subst hq; exact wf_of hy
   ·rw [upI_other _ _ e] at hv
    show W4.ownsInts 0 _ _ v (upI M.sp x _ a)
    rw [upI_other _ _ e]
    refine ⟨ownsRow_same (h.rows.own a v hv).1 fun g hg => ?_,(h.rows.own a v hv).2⟩
    refine old g (h.flt g (h.rows.inF a v g hv hg).1) (fun e => isMap h.apm a v hv (e ▸ hg)) (fun e => isMap h.spm a v hv (e ▸ hg)) (fun e1 => ?_)
    obtain ⟨u,hu,hug,_⟩ := atSv_block e1
    rcases h.rows.dis a x v u e hv hu with d | d
    ·rw [hg] at d; cases d
    ·exact d (hg.trans hug.symm)
  ·
   have key : ∀ a v,a ≠ x → sv a = some v → v.ownBlock = none ∨ v.ownBlock ≠ v'.ownBlock := by
    intro a v hne hv
    cases hb : v.ownBlock with
    | none => exact .inl rfl
    | some g =>
     right; intro e
     rcases hloc with e1 | e1
     ·rw [e1] at e
      obtain ⟨u,hu,hug,_⟩ := atSv_block e.symm
      rcases h.rows.dis a x v u hne hv hu with d | d
      ·rw [hb] at d; cases d
      ·exact d (hb.trans hug.symm)
     ·rw [e1] at e; cases e
      have := h.flt _ (h.rows.inF a v _ hv hb).1
      omega
   by_cases e : a = x
   ·subst e; rw [upI_same] at hv; cases hv
    rw [upI_other _ _ (Ne.symm hne)] at hu
    rcases key a' u (Ne.symm hne) hu with d | d
    ·cases hb : v'.ownBlock with
     | none => exact .inl rfl
     | some g => right; rw [d]; simp
    ·exact .inr (Ne.symm d)
   ·rw [upI_other _ _ e] at hv
    by_cases e' : a' = x
    ·subst e'; rw [upI_same] at hu; cases hu
     exact key a v e hv
    ·rw [upI_other _ _ e'] at hu
     exact h.rows.dis a a' v u hne hv hu
  ·by_cases e : a = x
   ·subst e; rw [upI_same] at hv; cases hv
    have := hv'F g hg
    exact ⟨this.1,fun e => e.elim this.2.1 this.2.2⟩
   ·rw [upI_other _ _ e] at hv
    exact ⟨.inl (h.rows.inF a v g hv hg).1,(h.rows.inF a v g hv hg).2⟩
 ·intro g hg
  rcases hg with hg | hg
  ·have := h.flt g hg; omega
  ·exact hg.2
 ·intro a
  show (upI M.sp x _ a).length ≤ _
  by_cases e : a = x
  ·subst e; rw [upI_same]
   have := h.spl a
   simp; omega
  ·rw [upI_other _ _ e]
   have := h.spl a; omega
 ·refine ⟨?_,?_,?_,by omega,fun i hi hF => old i hi (fun e => hF (e ▸ h.fba)) (fun e => hF (e ▸ h.fbs)) (fun e => hF (rowF i e).1)⟩
  ·rw [g34.os,g23.os,b22.os,g12.os,b01.os]
  ·rw [g34.tape,g23.tape,b22.tape,g12.tape,b01.tape]
  ·rw [g34.output,g23.output,b22.output,g12.output,b01.output]
theorem round_parts {w1 wr W1 W2 W2' W3 W4 : World} {mb ba bs bf n B : Nat} {pv : Value} {sv : Int → Option Value} {M : MeshM} {F : Nat → Prop} {L : Obj}
  (h : MeshParts wr mb ba bs bf n pv sv M (fun i => F i ∨ (B < i ∧ i < wr.heap.size))) (hst : Stay F w1 wr) (hF : ∀ i,F i → i < w1.heap.size) (hB : w1.heap.size ≤ B) (hL : wr.heap[B]? = some L)
  {x y z : Int} (hy : i64ok y)
  (b01 : Below wr.heap.size wr W1) (g12 : W1.grownBy W2 (some ba)) (hap : FMap Tryz.prog W2 80 ba (n + 1) (updV (edgeV M.ap) (kE x y) (vI z)))
  (b22 : Below W2.heap.size W2 W2') {g3 cap3 : Nat} (g23 : W2'.grownBy W3 (atSv sv x).ownBlock) (hrow : W3.ownsRow 0 3 1 (.slice (some ⟨g3,0,none⟩) ((M.sp x).length + 1) cap3) ((M.sp x).length + 1) ((M.sp x).map (Value.int .i64) ++ [.int .i64 y]))
  (hloc : (atSv sv x).ownBlock = some g3 ∨ g3 = W2'.heap.size)
  (hsp : FMap Tryz.prog W4 3 bs (n + 1) (updV (intV sv) (vI x) (.slice (some ⟨g3,0,none⟩) ((M.sp x).length + 1) cap3))) (g34 : W3.grownBy W4 (some bs)) :
  MeshParts W4 mb ba bs bf (n + 1) pv (upI sv x (some (.slice (some ⟨g3,0,none⟩) ((M.sp x).length + 1) cap3))) (addE M x y z) (fun i => F i ∨ (B < i ∧ i < W4.heap.size)) ∧ Stay F w1 W4 ∧ W4.heap[B]? = some L := by
 have hBl : B < wr.heap.size := (Array.getElem?_eq_some_iff.1 hL).1
 obtain ⟨p,st⟩ := step_parts h hy b01 g12 hap b22 _ g23 hrow (hloc.elim (fun e => .inl (by rw [e]; rfl)) (fun e => .inr (by rw [← e]; rfl))) hsp g34
 have hs := st.size
 refine ⟨p.wider (fun g hg => ?_) (fun g hg => ?_),hst.trans (st.mono fun i hi => ?_),(st.block B hBl ?_).trans hL⟩
 ·rcases hg with (hg | hg) | hg
  ·exact .inl hg
  ·exact .inr ⟨hg.1,by omega⟩
  ·exact .inr ⟨by omega,hg.2⟩
 ·rcases hg with hg | hg
  ·have := hF g hg; have := hst.size; omega
  ·exact hg.2
 ·rcases hi with hi | hi
  ·exact .inl hi
  ·exact .inr (by omega)
 ·rintro (e | e)
  ·have := hF B e; omega
  ·omega
theorem heap_setCell_other (w : World) (a : Addr) (v : Value) {i : Nat} (h : i ≠ a.block) : (w.setCell a v).heap[i]? = w.heap[i]? := by
 unfold World.setCell
 simp [Array.getElem?_modify,Ne.symm h]
theorem cnt_parts {w : World} {mb ba bs bf n : Nat} {pv : Value} {sv : Int → Option Value} {M : MeshM} {F : Nat → Prop} (h : MeshParts w mb ba bs bf n pv sv M F) (v : Int) (hv : -(n : Int) ≤ v ∧ v ≤ n) :
  MeshParts (w.setCell ⟨mb,3,none⟩ (.int .i64 v)) mb ba bs bf n pv sv { M with cnt := v } F ∧ Stay F w (w.setCell ⟨mb,3,none⟩ (.int .i64 v)) := by
 have hs : ∀ i,i ≠ mb → (w.setCell ⟨mb,3,none⟩ (.int .i64 v)).heap[i]? = w.heap[i]? := fun i hi => heap_setCell_other w _ _ hi
 have hc : ∀ i,i ≠ 3 → (w.setCell ⟨mb,3,none⟩ (.int .i64 v)).cell? ⟨mb,i,none⟩ = w.cell? ⟨mb,i,none⟩ := fun i hi => World.cell?_setCell_other _ _ _ _ (fun e => hi (by cases e; rfl))
 have mbMap : ∀ {k : TypeId} {b n : Nat} {f : Value → Option Value},FMap Tryz.prog w k b n f → b ≠ mb := by
  intro k b n f hf e
  subst e
  obtain ⟨es,cl,h2⟩ := hf.isMap
  have := h.c0
  simp [World.cell?,h2] at this
 refine ⟨⟨(hc 0 (by omega)).trans h.c0,(hc 1 (by omega)).trans h.c1,(hc 2 (by omega)).trans h.c2,World.cell?_setCell_same _ _ _ h.c3,(hc 4 (by omega)).trans h.c4,fun i => by rw [World.frozen?_setCell]; exact h.fz i,
  ownsRow_same h.pts fun g hg => hs g (fun e => h.npm (e ▸ hg)),h.apm.same (hs ba (mbMap h.apm)),h.spm.same (hs bs (mbMap h.spm)),h.fxm.same (hs bf (mbMap h.fxm)),
  h.rows.same fun g _ ha => hs g (fun e => ha (.inl e)),h.nab,h.naf,h.nsf,h.npm,h.fmb,h.fba,h.fbs,h.fbf,h.fpv,fun g hg => by rw [World.size_setCell]; exact h.flt g hg,h.spl,hv⟩,?_⟩
 exact ⟨rfl,rfl,rfl,by rw [World.size_setCell]; exact Nat.le_refl _,fun i hi hF => hs i (fun e => hF (e ▸ h.fmb))⟩
theorem FMap.drew {P : Program} {w : World} {k : TypeId} {b n : Nat} {f : Value → Option Value} (h : FMap P w k b n f) : FMap P w.drew k b n f := h
theorem grown_drew {w w' : World} {row : Option Nat} (h : w.drew.grownBy w' row) : w.grownBy w' row := ⟨h.os,h.tape,h.output,h.size,h.block⟩
def Reads3 (w : World) (mb bs eb : Nat) (x y : Value) : Prop := w.cell? ⟨mb,2,none⟩ = some (.map (some bs)) ∧ w.cell? ⟨eb,0,none⟩ = some x ∧ w.cell? ⟨eb,1,none⟩ = some y
theorem Reads3.alloc {w : World} {mb bs eb : Nat} {x y : Value} (h : Reads3 w mb bs eb x y) (o : Obj) : Reads3 (w.alloc o) mb bs eb x y :=
 ⟨Lib.cell?_alloc_some _ h.1,Lib.cell?_alloc_some _ h.2.1,Lib.cell?_alloc_some _ h.2.2⟩
theorem Reads3.grown {w w' : World} {mb bs eb : Nat} {x y : Value} {row : Option Nat} (h : Reads3 w mb bs eb x y) (hg : w.grownBy w' row) (h1 : some mb ≠ row) (h2 : some eb ≠ row) : Reads3 w' mb bs eb x y :=
 ⟨hg.cell h.1 h1,hg.cell h.2.1 h2,hg.cell h.2.2 h2⟩
theorem MeshParts.mb_ne {w : World} {mb ba bs bf n : Nat} {pv : Value} {sv : Int → Option Value} {M : MeshM} {F : Nat → Prop} (h : MeshParts w mb ba bs bf n pv sv M F) {k : TypeId} {b n : Nat} {f : Value → Option Value} (hf : FMap Tryz.prog w k b n f) : mb ≠ b := by
 intro e
 subst e
 obtain ⟨es,cl,h2⟩ := hf.isMap
 have := h.c0
 simp [World.cell?,h2] at this
theorem MeshParts.row_ne {w : World} {mb ba bs bf n : Nat} {pv : Value} {sv : Int → Option Value} {M : MeshM} {F : Nat → Prop} (h : MeshParts w mb ba bs bf n pv sv M F) {k : TypeId} {b n : Nat} {f : Value → Option Value} (hf : FMap Tryz.prog w k b n f) (x : Int) : (atSv sv x).ownBlock ≠ some b := by
 intro e
 obtain ⟨v,hv,hvg,_⟩ := atSv_block e
 obtain ⟨es,cl,h2⟩ := hf.isMap
 rcases (h.rows.own x v hv).1.2 with ⟨rfl,_⟩ | ⟨g', cap,cur,rfl,_,hh,_⟩
 ·simp [Value.ownBlock] at hvg
 ·simp [Value.ownBlock] at hvg; subst hvg; rw [hh] at h2; cases h2
theorem MeshParts.row_facts {w : World} {mb ba bs bf n : Nat} {pv : Value} {sv : Int → Option Value} {M : MeshM} {F : Nat → Prop} (h : MeshParts w mb ba bs bf n pv sv M F) (x : Int) :
  (atSv sv x).ownBlock ≠ some mb ∧ (atSv sv x).ownBlock ≠ some w.heap.size ∧ (atSv sv x).ownBlock ≠ some bs ∧ mb ≠ bs ∧ w.heap.size ≠ bs := by
 refine ⟨fun e => ?_,fun e => ?_,h.row_ne h.spm x,h.mb_ne h.spm,fun e => ?_⟩
 ·obtain ⟨v,hv,hvg,_⟩ := atSv_block e
  exact (h.rows.inF x v _ hv hvg).2 (.inl rfl)
 ·obtain ⟨v,hv,hvg,_⟩ := atSv_block e
  have := h.flt _ (h.rows.inF x v _ hv hvg).1
  omega
 ·have := h.flt _ h.fbs; omega
theorem lookS {w : World} {bm n : Nat} {sv : Int → Option Value} (h : FMap Tryz.prog w 3 bm n (intV sv)) {a : Int} (ha : i64ok a) :
  (Instr.lookup 77 (.map (some bm)) (.int .i64 a) false).run Tryz.prog w = .ok (atSv sv a) w := by
 have := (h.look intLaw Tryz.underlying77 (z := .slice none 0 0) (by kernel_rfl) (keyI ha)).1
 exact this
def makeM (M : MeshM) (a b c : Int) : MeshM := { addE (addE (addE M a b c) b c a) c a b with cnt := M.cnt + 1 }
theorem idx3_0 (x0 x1 x2 x3 x4 x5 : Value) (w : World) : (Instr.index 111 (.agg #[x0,x1,x2,x3,x4,x5]) (.int .i64 0)).run Tryz.prog w = .ok (.agg #[x0,x1]) w := by kernel_rfl
theorem idx3_1 (x0 x1 x2 x3 x4 x5 : Value) (w : World) : (Instr.index 111 (.agg #[x0,x1,x2,x3,x4,x5]) (.int .i64 1)).run Tryz.prog w = .ok (.agg #[x2,x3]) w := by kernel_rfl
theorem idx3_2 (x0 x1 x2 x3 x4 x5 : Value) (w : World) : (Instr.index 111 (.agg #[x0,x1,x2,x3,x4,x5]) (.int .i64 2)).run Tryz.prog w = .ok (.agg #[x4,x5]) w := by kernel_rfl
theorem infoInt : (Tryz.prog.info? 3).map (fun i => (i.zero,i.size,i.bytes)) = some (some (.int .i64 0),1,8) := by kernel_rfl
def takenB (M : MeshM) (a b c : Int) : Bool := (M.ap a b).isSome || (M.ap b c).isSome || (M.ap c a).isSome
def tri3 (a b c : Nat) (k : Nat) : Nat := if k = 0 then a else if k = 1 then b else if k = 2 then c else if k = 3 then a else b
def Mk (M : MeshM) (a b c : Nat) : Nat → MeshM
 | 0 => M
 | k + 1 => addE (Mk M a b c k) (tri3 a b c k) (tri3 a b c (k + 1)) (tri3 a b c (k + 2))
theorem Mk_cnt (M : MeshM) (a b c k : Nat) : (Mk M a b c k).cnt = M.cnt := by induction k with | zero => rfl | succ k ih => exact ih
def freeTo (M : MeshM) (a b c : Nat) (k : Nat) : Prop := ∀ j,j < k → j < 3 → M.ap (tri3 a b c j) (tri3 a b c (j + 1)) = none
theorem taken_of {M : MeshM} {a b c k : Nat} (hk : k < 3) {v : Int} (h : M.ap (tri3 a b c k) (tri3 a b c (k + 1)) = some v) : takenB M a b c = true := by
 have : k = 0 ∨ k = 1 ∨ k = 2 := by omega
 unfold takenB
 rcases this with rfl | rfl | rfl <;> simp [tri3] at h <;> simp [h]
theorem free_of {M : MeshM} {a b c : Nat} (h : freeTo M a b c 3) : takenB M a b c = false := by
 have h0 := h 0 (by omega) (by omega)
 have h1 := h 1 (by omega) (by omega)
 have h2 := h 2 (by omega) (by omega)
 simp [tri3] at h0 h1 h2
 unfold takenB
 simp [h0,h1,h2]
theorem nat64 {a : Nat} {L : Nat} (h : a < L) (hl : L ≤ 1048576) : i64ok (a : Int) := by unfold i64ok; omega
theorem make_rest {w : World} {mb n : Nat} {M : MeshM} {F : Nat → Prop} (h : MeshAt w mb n M F) (h64 : ∀ p,p ∈ M.P → pt64 p) (hl : M.P.length ≤ 1048576) (hn : n ≤ 1000000000) {a b c : Nat} (ha : a < M.P.length) (hb : b < M.P.length) (hc : c < M.P.length) (hs : 0 < signM M a b c) :
  Calls Tryz.prog 34 #[.pointer (some ⟨mb,0,none⟩),.int .i64 a,.int .i64 b,.int .i64 c] w fun r w' =>
   (takenB M a b c = true ∧ r = .returned (.int .i64 14) ∧ Below w.heap.size w w') ∨
   (takenB M a b c = false ∧ r = .returned (.int .i64 0) ∧ MeshAt w' mb (n + 3) (makeM M a b c) (fun i => F i ∨ (w.heap.size ≤ i ∧ i < w'.heap.size)) ∧ Stay F w w') := by
 have HA := Lib.hid (has_walk h a)
 have HB := Lib.hid (has_walk h b)
 have HC := Lib.hid (has_walk h c)
 rw [hasM_nat ha] at HA
 rw [hasM_nat hb] at HB
 rw [hasM_nat hc] at HC
 obtain ⟨ba,bs,bf,pv,sv,h⟩ := h
 obtain ⟨ad,cap,rfl,hpc⟩ := h.ptcells
 obtain ⟨bp,off,rfl,_,hcells⟩ := hpc (by omega)
 clear hpc
 have c0 := h.c0
 obtain ⟨ax,ay⟩ := hcells a ha
 obtain ⟨bx,bY⟩ := hcells b hb
 obtain ⟨cx,cy⟩ := hcells c hc
 have HS := Lib.hid (signM_walk M h64 ha hb hc)
 have HSS := Lib.hid hs
 have HAR := Lib.hid (around_walk a b c)
 have HP := Lib.hid h
 clear h hcells h64 hs
 generalize M.P.getD a (0,0) = pa at *
 generalize M.P.getD b (0,0) = pb at *
 generalize M.P.getD c (0,0) = pc at *
 generalize signM M a b c = s at *
 go_enter Tryz.func34,Tryz.ntmps34
 go_wp2_with (go_at_call 75; (first | (with_reducible refine HA.out.mono ?_) | (with_reducible refine HB.out.mono ?_) | (with_reducible refine HC.out.mono ?_)); rintro r w1 ⟨rfl,rfl⟩)
 go_still_tail 21,(by kernel_rfl)
 clear HA HB HC c0 ax ay bx bY cx cy
 go_wp2_with (first
  |(go_at_call 76; refine (HS.out _).mono ?_; rintro r w2 ⟨rfl,hb2⟩)
  |(go_at_call 77; refine (HAR.out _).mono ?_; rintro r w3 ⟨rfl,hb3⟩))
 all_goals first | (exfalso; have := HSS.out; omega) | skip
 have hB3 : Below w1.heap.size w1 w3 := (Below.refl _ w1).drew.trans (hb2.trans (hb3.mono hb2.size))
 have HBA := Lib.hid hB3
 have HE0 := Lib.hid (nat64 ha hl)
 have HE1 := Lib.hid (nat64 hb hl)
 have HE2 := Lib.hid (nat64 hc hl)
 clear HAR HS HSS hb2 hb3 hB3
 have hi0 := idx3_0 (.int .i64 a) (.int .i64 b) (.int .i64 b) (.int .i64 c) (.int .i64 c) (.int .i64 a)
 have hi1 := idx3_1 (.int .i64 a) (.int .i64 b) (.int .i64 b) (.int .i64 c) (.int .i64 c) (.int .i64 a)
 have hi2 := idx3_2 (.int .i64 a) (.int .i64 b) (.int .i64 b) (.int .i64 c) (.int .i64 c) (.int .i64 a)
 go_loopw [65] (fun i wr => ∃ k : Nat,k ≤ 3 ∧ i = .int .i64 k ∧ Hid (Below w1.heap.size w1 wr) ∧ Hid (freeTo M a b c k) ∧ Hid (wr.heap[w3.heap.size]? = some (.cells #[.int .i64 a,.int .i64 b,.int .i64 b,.int .i64 c,.int .i64 c,.int .i64 a] 111 (0,0)))) (fun i _ => 3 - (intOf i).toNat)
 case atStart =>
  exact ⟨0,by omega,rfl,HBA.out.alloc HBA.out.size _,fun j hj => by omega,heap_alloc_new _ _⟩
 case round =>
  obtain ⟨k,hk,rfl,HBR,HFR,HLB⟩ := hrel
  by_cases hlt : k < 3
  ·have hk3 : k = 0 ∨ k = 1 ∨ k = 2 := by omega
   obtain ⟨W,hW⟩ : ∃ W,W = wr.alloc (.cells #[.int .i64 (tri3 a b c k),.int .i64 (tri3 a b c (k + 1))] 80) := ⟨_,rfl⟩
   have HBW : Hid (Below w1.heap.size w1 W) := by rw [hW]; exact HBR.out.alloc HBR.out.size _
   have HLW : Hid (W.heap[w3.heap.size]? = some (.cells #[.int .i64 a,.int .i64 b,.int .i64 b,.int .i64 c,.int .i64 c,.int .i64 a] 111 (0,0))) := by
    rw [hW]; exact (((Below.refl wr.heap.size wr).alloc (Nat.le_refl _) _).block _ (Array.getElem?_eq_some_iff.1 HLB.out).1).trans HLB.out
   have e0 : W.cell? ⟨wr.heap.size,0,none⟩ = some (.int .i64 (tri3 a b c k)) := by rw [hW,World.cell?_alloc_at _ _ _ _ rfl]; rfl
   have e1 : W.cell? ⟨wr.heap.size,1,none⟩ = some (.int .i64 (tri3 a b c (k + 1))) := by rw [hW,World.cell?_alloc_at _ _ _ _ rfl]; rfl
   have c1 := (HP.out.below HBW.out).c1
   have hL := lookE (w := W.drew) (HP.out.below HBW.out).apm (a := tri3 a b c k) (b := tri3 a b c (k + 1)) (by rcases hk3 with rfl | rfl | rfl <;> first | exact HE0.out | exact HE1.out | exact HE2.out) (by rcases hk3 with rfl | rfl | rfl <;> first | exact HE0.out | exact HE1.out | exact HE2.out)
   have HW := Lib.hid hW
   clear hW
   cases hap : M.ap (tri3 a b c k) (tri3 a b c (k + 1)) with
   | some v =>
    have HT := Lib.hid (taken_of hlt hap)
    rw [hap] at hL
    rcases hk3 with rfl | rfl | rfl
    all_goals
     clear hap
     simp [tri3] at c1 hL e0 e1
     go_wp2
     have hW' := HW.out
     simp [tri3] at hW'
     rw [← hW']
     clear hW'
     go_region_held3 (fun w' => w' = W.drew) (first | rfl | assumption) (fail)
     go_wp2
     go_ret
     exact .inl ⟨HT.out,rfl,HBW.out.drew⟩
   | none =>
    have HT : Hid (freeTo M a b c (k + 1)) := fun j hj hj3 => by
     by_cases e : j = k
     ·rw [e]; exact hap
     ·exact HFR.out j (by omega) hj3
    rw [hap] at hL
    rcases hk3 with rfl | rfl | rfl
    all_goals
     clear hap
     simp [tri3] at c1 hL e0 e1
     go_wp2
     have hW' := HW.out
     simp [tri3] at hW'
     rw [← hW']
     clear hW'
     go_region_held3 (fun w' => w' = W.drew) (first | rfl | assumption) (fail)
     go_wp2
     go_roundw
     case rel => first | exact ⟨1,by omega,rfl,HBW.out.drew,HT,HLW⟩ | exact ⟨2,by omega,rfl,HBW.out.drew,HT,HLW⟩ | exact ⟨3,by omega,rfl,HBW.out.drew,HT,HLW⟩
     case measure => simp [intOf]
  ·have e : k = 3 := by omega
   subst e
   have HTF := Lib.hid (free_of HFR.out)
   have hl0 : wr.cell? ⟨w3.heap.size,0,none⟩ = some (.int .i64 a) := by simp [World.cell?,HLB.out]
   have hl1 : wr.cell? ⟨w3.heap.size,1,none⟩ = some (.int .i64 b) := by simp [World.cell?,HLB.out]
   have hl2 : wr.cell? ⟨w3.heap.size,2,none⟩ = some (.int .i64 b) := by simp [World.cell?,HLB.out]
   have hl3 : wr.cell? ⟨w3.heap.size,3,none⟩ = some (.int .i64 c) := by simp [World.cell?,HLB.out]
   have hl4 : wr.cell? ⟨w3.heap.size,4,none⟩ = some (.int .i64 c) := by simp [World.cell?,HLB.out]
   have hl5 : wr.cell? ⟨w3.heap.size,5,none⟩ = some (.int .i64 a) := by simp [World.cell?,HLB.out]
   go_wp2
   clear hl0 hl1 hl2 hl3 hl4 hl5
   have HLX := HLB
   have HMP := Lib.hid (((HP.out.below HBR.out).wider (G := fun i => F i ∨ (w3.heap.size < i ∧ i < wr.heap.size)) (fun g hg => .inl hg) (fun g hg => hg.elim (fun e => Nat.lt_of_lt_of_le (HP.out.flt g e) HBR.out.size) (fun e => e.2))))
   have HST := Lib.hid (Stay.of_below (G := F) HBR.out)
   have s13 := Lib.hid HBA.out.size
   clear HFR HLB hk hlt
   go_loopw [80] (fun i wq => ∃ (k : Nat) (sv' : Int → Option Value),k ≤ 3 ∧ i = .int .i64 k ∧ Hid (MeshParts wq mb ba bs bf (n + k) (Value.slice (some ⟨bp,off,none⟩) M.P.length cap) sv' (Mk M a b c k) (fun i => F i ∨ (w3.heap.size < i ∧ i < wq.heap.size))) ∧ Hid (Stay F w1 wq) ∧ Hid (wq.heap[w3.heap.size]? = some (.cells #[.int .i64 a,.int .i64 b,.int .i64 b,.int .i64 c,.int .i64 c,.int .i64 a] 111 (0,0)))) (fun i _ => 3 - (intOf i).toNat)
   case atStart => exact ⟨0,sv,by omega,rfl,HMP.out,HST.out,HLX.out⟩
   case round =>
    obtain ⟨k,sv', hk,rfl,HQ,HS2,HLQ⟩ := hrel
    by_cases hlt : k < 3
    ·have hk3 : k = 0 ∨ k = 1 ∨ k = 2 := by omega
     obtain ⟨i0,hi,hz0,hz1,hz2⟩ := info_parts infoInt
     obtain ⟨W,hW⟩ : ∃ W,W = wr.alloc (.cells #[.int .i64 (tri3 a b c k),.int .i64 (tri3 a b c (k + 1))] 80) := ⟨_,rfl⟩
     have HBW : Hid (Below wr.heap.size wr W) := by rw [hW]; exact (Below.refl _ _).alloc (Nat.le_refl _) _
     have HLW : Hid (W.heap[w3.heap.size]? = some (.cells #[.int .i64 a,.int .i64 b,.int .i64 b,.int .i64 c,.int .i64 c,.int .i64 a] 111 (0,0))) := (HBW.out.block _ (Array.getElem?_eq_some_iff.1 HLQ.out).1).trans HLQ.out
     have hl0 : W.cell? ⟨w3.heap.size,0,none⟩ = some (.int .i64 a) := by simp [World.cell?,HLW.out]
     have hl1 : W.cell? ⟨w3.heap.size,1,none⟩ = some (.int .i64 b) := by simp [World.cell?,HLW.out]
     have hl2 : W.cell? ⟨w3.heap.size,2,none⟩ = some (.int .i64 b) := by simp [World.cell?,HLW.out]
     have hl3 : W.cell? ⟨w3.heap.size,3,none⟩ = some (.int .i64 c) := by simp [World.cell?,HLW.out]
     have hl4 : W.cell? ⟨w3.heap.size,4,none⟩ = some (.int .i64 c) := by simp [World.cell?,HLW.out]
     have hl5 : W.cell? ⟨w3.heap.size,5,none⟩ = some (.int .i64 a) := by simp [World.cell?,HLW.out]
     have e0 : W.cell? ⟨wr.heap.size,0,none⟩ = some (.int .i64 (tri3 a b c k)) := by rw [hW,World.cell?_alloc_at _ _ _ _ rfl]; rfl
     have e1 : W.cell? ⟨wr.heap.size,1,none⟩ = some (.int .i64 (tri3 a b c (k + 1))) := by rw [hW,World.cell?_alloc_at _ _ _ _ rfl]; rfl
     have c1 := (HQ.out.below HBW.out).c1
     have c2 := (HQ.out.below HBW.out).c2
     have HAP := Lib.hid (HQ.out.below HBW.out.drew).apm
     have HW := Lib.hid hW
     have wr1 : IntKind.i64.wrap 1 = 1 := by decide
     have wr2 : IntKind.i64.wrap 2 = 2 := by decide
     have wr3 : IntKind.i64.wrap 3 = 3 := by decide
     have tm1 : (1 : Int).tmod 3 = 1 := rfl
     have tm2 : (2 : Int).tmod 3 = 2 := rfl
     have tm3 : (3 : Int).tmod 3 = 0 := rfl
     have HKX : Hid (i64ok (tri3 a b c k : Int)) := by rcases hk3 with rfl | rfl | rfl <;> first | exact HE0.out | exact HE1.out | exact HE2.out
     have HKY : Hid (i64ok (tri3 a b c (k + 1) : Int)) := by rcases hk3 with rfl | rfl | rfl <;> first | exact HE0.out | exact HE1.out | exact HE2.out
     have HK := Lib.hid (keyE HKX.out HKY.out)
     have HSP := Lib.hid (HQ.out.below HBW.out).spm
     have HROW := Lib.hid ((HQ.out.below HBW.out).rows.at (tri3 a b c k))
     have HRB := Lib.hid ((HQ.out.below HBW.out).row_ne (HQ.out.below HBW.out.drew).apm (tri3 a b c k))
     have HRF := Lib.hid (HQ.out.row_facts (tri3 a b c k))
     have HSL := Lib.hid (HQ.out.spl (tri3 a b c k))
     have HKXX := Lib.hid HKX.out
     have HNE : Hid (mb ≠ ba ∧ bs ≠ ba ∧ wr.heap.size ≠ ba) := ⟨HQ.out.mb_ne HQ.out.apm,Ne.symm HQ.out.nab,fun e => by have := HQ.out.apm.lt; omega⟩
     clear hW
     rcases hk3 with rfl | rfl | rfl
     ·simp [tri3] at c1 e0 e1 HK HAP HSP HROW HRB HRF HSL HKXX
      go_wp2
      have hW' := HW.out
      simp [tri3] at hW'
      rw [← hW']
      clear hW'
      go_still_tail 11,(by kernel_rfl)
      clear hl0 hl1 hl2 hl3 hl4 hl5 c1
      go_wp2_with (at_mapUpdate; refine wp_store _ rfl _ _ _ 76 rfl 80 3 edgeLaw Tryz.underlying76 ba _ _ rfl HAP.out (by unfold maxLen; omega) _ _ rfl rfl _ HK.out ?_; intro W2 hap2 hg2)
      go_frame
      have HG2 : Hid (W.grownBy W2 (some ba)) := grown_drew (w := W) hg2
      have HAP2 := Lib.hid hap2
      clear hap2 hg2
      have n2 : Reads3 W2.drew mb bs wr.heap.size (.int .i64 a) (.int .i64 b) := Reads3.grown (w := W) (w' := W2) ⟨c2,e0,e1⟩ HG2.out (by simpa using HNE.out.1) (by simpa using HNE.out.2.2)
      have HSP2 := Lib.hid (FMap.kept HSP.out HG2.out (by simpa using HNE.out.2.1))
      have hS2 := lookS (w := W2.drew) HSP2.out HKXX.out
      have hS3 := lookS (w := (W2.alloc (.cells #[.int .i64 b] 3)).drew) (FMap.drew (HSP2.out.kept (World.grownBy_alloc W2 _ none) (by simp))) HKXX.out
      have HOI := Lib.hid (World.ownsInts.kept HROW.out HG2.out (.inr HRB.out))
      clear c2 e0 e1
      go_region_held3 (fun w' => w'.cell? ⟨mb,2,none⟩ = some (.map (some bs)) ∧ w'.cell? ⟨wr.heap.size,0,none⟩ = some (.int .i64 a) ∧ w'.cell? ⟨wr.heap.size,1,none⟩ = some (.int .i64 b)) (first | assumption | exact n2 | exact Reads3.alloc n2 _ | exact n3 | exact n4)
       (first
        |(refine step_append_lies _ rfl _ _ 108 rfl 0 3 i0 (.int .i64 0) 1 8 Tryz.underlying108 hi hz0 hz1 hz2 rfl (by decide) (atSv sv' a) _ _ rfl (World.ownsRow.alloc (w := W2.drew) HOI.out.1 _) ⟨W2.heap.size,0,none⟩ 1 1 [.int .i64 b] rfl rfl (cell_one_new _ _ _) (ints_oneCell .i64 [b]) (by decide) (by have := HSL.out; unfold maxLen; omega) (by have := HSL.out; omega) (Nat.zero_le _) _ rfl ?_
          intro g3 cap3 W3 hown3 hg3 hloc3 hlt3
          have n3 := Reads3.grown (Reads3.alloc n2 _) hg3 (fun e => HRF.out.1 e.symm) (fun e => HRF.out.2.1 e.symm)
          obtain ⟨W4,hrun4,hsp4,hg4⟩ := FMap.store (key := .int .i64 (a : Int)) (FMap.kept (FMap.kept HSP2.out.drew (World.grownBy_alloc W2.drew _ none) (by simp)) hg3 (fun e => HRF.out.2.2.1 e.symm)) intLaw Tryz.underlying77 (by unfold maxLen; omega) (keyI HKXX.out) (.slice (some ⟨g3,0,none⟩) (((Mk M a b c 0).sp (a : Int)).length + 1) cap3)
          have n4 := Reads3.grown n3 hg4 (by simpa using HRF.out.2.2.2.1) (by simpa using HRF.out.2.2.2.2)))
      all_goals
       go_wp2
       have b22 : Below W2.heap.size W2 (W2.alloc (.cells #[.int .i64 b] 3)).drew := ((Below.refl _ W2).alloc (Nat.le_refl _) _).drew
       obtain ⟨p1,p2,p3⟩ := round_parts (n := n) (M := Mk M a b c 0) (L := .cells #[.int .i64 a,.int .i64 b,.int .i64 b,.int .i64 c,.int .i64 c,.int .i64 a] 111 (0,0)) HQ.out HS2.out HP.out.flt s13.out HLQ.out HKY.out HBW.out HG2.out HAP2.out b22 hg3 hown3 hloc3 hsp4 hg4
       refine ⟨?_,?_⟩
       ·exact ⟨_,_,_,_,_,_,_,_,_,_,_,_,_,_,_,_,_,_,_,_,_,_,_,_,_,_,_,_,_,_,_,_,_,_,_,⟨1,_,by omega,rfl,p1,p2,p3⟩,rfl⟩
       ·simp [intOf]
     ·simp [tri3] at c1 e0 e1 HK HAP HSP HROW HRB HRF HSL HKXX
      go_wp2
      have hW' := HW.out
      simp [tri3] at hW'
      rw [← hW']
      clear hW'
      go_still_tail 11,(by kernel_rfl)
      clear hl0 hl1 hl2 hl3 hl4 hl5 c1
      go_wp2_with (at_mapUpdate; refine wp_store _ rfl _ _ _ 76 rfl 80 3 edgeLaw Tryz.underlying76 ba _ _ rfl HAP.out (by unfold maxLen; omega) _ _ rfl rfl _ HK.out ?_; intro W2 hap2 hg2)
      go_frame
      have HG2 : Hid (W.grownBy W2 (some ba)) := grown_drew (w := W) hg2
      have HAP2 := Lib.hid hap2
      clear hap2 hg2
      have n2 : Reads3 W2.drew mb bs wr.heap.size (.int .i64 b) (.int .i64 c) := Reads3.grown (w := W) (w' := W2) ⟨c2,e0,e1⟩ HG2.out (by simpa using HNE.out.1) (by simpa using HNE.out.2.2)
      have HSP2 := Lib.hid (FMap.kept HSP.out HG2.out (by simpa using HNE.out.2.1))
      have hS2 := lookS (w := W2.drew) HSP2.out HKXX.out
      have hS3 := lookS (w := (W2.alloc (.cells #[.int .i64 c] 3)).drew) (FMap.drew (HSP2.out.kept (World.grownBy_alloc W2 _ none) (by simp))) HKXX.out
      have HOI := Lib.hid (World.ownsInts.kept HROW.out HG2.out (.inr HRB.out))
      clear c2 e0 e1
      go_region_held3 (fun w' => w'.cell? ⟨mb,2,none⟩ = some (.map (some bs)) ∧ w'.cell? ⟨wr.heap.size,0,none⟩ = some (.int .i64 b) ∧ w'.cell? ⟨wr.heap.size,1,none⟩ = some (.int .i64 c)) (first | assumption | exact n2 | exact Reads3.alloc n2 _ | exact n3 | exact n4)
       (first
        |(refine step_append_lies _ rfl _ _ 108 rfl 0 3 i0 (.int .i64 0) 1 8 Tryz.underlying108 hi hz0 hz1 hz2 rfl (by decide) (atSv sv' b) _ _ rfl (World.ownsRow.alloc (w := W2.drew) HOI.out.1 _) ⟨W2.heap.size,0,none⟩ 1 1 [.int .i64 c] rfl rfl (cell_one_new _ _ _) (ints_oneCell .i64 [c]) (by decide) (by have := HSL.out; unfold maxLen; omega) (by have := HSL.out; omega) (Nat.zero_le _) _ rfl ?_
          intro g3 cap3 W3 hown3 hg3 hloc3 hlt3
          have n3 := Reads3.grown (Reads3.alloc n2 _) hg3 (fun e => HRF.out.1 e.symm) (fun e => HRF.out.2.1 e.symm)
          obtain ⟨W4,hrun4,hsp4,hg4⟩ := FMap.store (key := .int .i64 (b : Int)) (FMap.kept (FMap.kept HSP2.out.drew (World.grownBy_alloc W2.drew _ none) (by simp)) hg3 (fun e => HRF.out.2.2.1 e.symm)) intLaw Tryz.underlying77 (by unfold maxLen; omega) (keyI HKXX.out) (.slice (some ⟨g3,0,none⟩) (((Mk M a b c 1).sp (b : Int)).length + 1) cap3)
          have n4 := Reads3.grown n3 hg4 (by simpa using HRF.out.2.2.2.1) (by simpa using HRF.out.2.2.2.2)))
      all_goals
       go_wp2
       have b22 : Below W2.heap.size W2 (W2.alloc (.cells #[.int .i64 c] 3)).drew := ((Below.refl _ W2).alloc (Nat.le_refl _) _).drew
       obtain ⟨p1,p2,p3⟩ := round_parts (n := n + 1) (M := Mk M a b c 1) (L := .cells #[.int .i64 a,.int .i64 b,.int .i64 b,.int .i64 c,.int .i64 c,.int .i64 a] 111 (0,0)) HQ.out HS2.out HP.out.flt s13.out HLQ.out HKY.out HBW.out HG2.out HAP2.out b22 hg3 hown3 hloc3 hsp4 hg4
       refine ⟨?_,?_⟩
       ·exact ⟨_,_,_,_,_,_,_,_,_,_,_,_,_,_,_,_,_,_,_,_,_,_,_,_,_,_,_,_,_,_,_,_,_,_,_,⟨2,_,by omega,rfl,p1,p2,p3⟩,rfl⟩
       ·simp [intOf]
     ·simp [tri3] at c1 e0 e1 HK HAP HSP HROW HRB HRF HSL HKXX
      go_wp2
      have hW' := HW.out
      simp [tri3] at hW'
      rw [← hW']
      clear hW'
      go_still_tail 11,(by kernel_rfl)
      clear hl0 hl1 hl2 hl3 hl4 hl5 c1
      go_wp2_with (at_mapUpdate; refine wp_store _ rfl _ _ _ 76 rfl 80 3 edgeLaw Tryz.underlying76 ba _ _ rfl HAP.out (by unfold maxLen; omega) _ _ rfl rfl _ HK.out ?_; intro W2 hap2 hg2)
      go_frame
      have HG2 : Hid (W.grownBy W2 (some ba)) := grown_drew (w := W) hg2
      have HAP2 := Lib.hid hap2
      clear hap2 hg2
      have n2 : Reads3 W2.drew mb bs wr.heap.size (.int .i64 c) (.int .i64 a) := Reads3.grown (w := W) (w' := W2) ⟨c2,e0,e1⟩ HG2.out (by simpa using HNE.out.1) (by simpa using HNE.out.2.2)
      have HSP2 := Lib.hid (FMap.kept HSP.out HG2.out (by simpa using HNE.out.2.1))
      have hS2 := lookS (w := W2.drew) HSP2.out HKXX.out
      have hS3 := lookS (w := (W2.alloc (.cells #[.int .i64 a] 3)).drew) (FMap.drew (HSP2.out.kept (World.grownBy_alloc W2 _ none) (by simp))) HKXX.out
      have HOI := Lib.hid (World.ownsInts.kept HROW.out HG2.out (.inr HRB.out))
      clear c2 e0 e1
      go_region_held3 (fun w' => w'.cell? ⟨mb,2,none⟩ = some (.map (some bs)) ∧ w'.cell? ⟨wr.heap.size,0,none⟩ = some (.int .i64 c) ∧ w'.cell? ⟨wr.heap.size,1,none⟩ = some (.int .i64 a)) (first | assumption | exact n2 | exact Reads3.alloc n2 _ | exact n3 | exact n4)
       (first
        |(refine step_append_lies _ rfl _ _ 108 rfl 0 3 i0 (.int .i64 0) 1 8 Tryz.underlying108 hi hz0 hz1 hz2 rfl (by decide) (atSv sv' c) _ _ rfl (World.ownsRow.alloc (w := W2.drew) HOI.out.1 _) ⟨W2.heap.size,0,none⟩ 1 1 [.int .i64 a] rfl rfl (cell_one_new _ _ _) (ints_oneCell .i64 [a]) (by decide) (by have := HSL.out; unfold maxLen; omega) (by have := HSL.out; omega) (Nat.zero_le _) _ rfl ?_
          intro g3 cap3 W3 hown3 hg3 hloc3 hlt3
          have n3 := Reads3.grown (Reads3.alloc n2 _) hg3 (fun e => HRF.out.1 e.symm) (fun e => HRF.out.2.1 e.symm)
          obtain ⟨W4,hrun4,hsp4,hg4⟩ := FMap.store (key := .int .i64 (c : Int)) (FMap.kept (FMap.kept HSP2.out.drew (World.grownBy_alloc W2.drew _ none) (by simp)) hg3 (fun e => HRF.out.2.2.1 e.symm)) intLaw Tryz.underlying77 (by unfold maxLen; omega) (keyI HKXX.out) (.slice (some ⟨g3,0,none⟩) (((Mk M a b c 2).sp (c : Int)).length + 1) cap3)
          have n4 := Reads3.grown n3 hg4 (by simpa using HRF.out.2.2.2.1) (by simpa using HRF.out.2.2.2.2)))
      all_goals
       go_wp2
       have b22 : Below W2.heap.size W2 (W2.alloc (.cells #[.int .i64 a] 3)).drew := ((Below.refl _ W2).alloc (Nat.le_refl _) _).drew
       obtain ⟨p1,p2,p3⟩ := round_parts (n := n + 2) (M := Mk M a b c 2) (L := .cells #[.int .i64 a,.int .i64 b,.int .i64 b,.int .i64 c,.int .i64 c,.int .i64 a] 111 (0,0)) HQ.out HS2.out HP.out.flt s13.out HLQ.out HKY.out HBW.out HG2.out HAP2.out b22 hg3 hown3 hloc3 hsp4 hg4
       refine ⟨?_,?_⟩
       ·exact ⟨_,_,_,_,_,_,_,_,_,_,_,_,_,_,_,_,_,_,_,_,_,_,_,_,_,_,_,_,_,_,_,_,_,_,_,⟨3,_,by omega,rfl,p1,p2,p3⟩,rfl⟩
       ·simp [intOf]
    ·have e : k = 3 := by omega
     subst e
     have c3 := HQ.out.c3
     have fz := HQ.out.fz 3
     have HCB := Lib.hid HQ.out.cb
     have HCM := Lib.hid (Mk_cnt M a b c 3)
     have HCP := Lib.hid HP.out.cb
     have hwr : IntKind.i64.wrap ((Mk M a b c 3).cnt + 1) = (Mk M a b c 3).cnt + 1 := by
      have := HCB.out
      simp [IntKind.wrap,IntKind.bits,IntKind.signed]; omega
     go_wp2
     go_ret
     obtain ⟨q1,q2⟩ := cnt_parts HQ.out ((Mk M a b c 3).cnt + 1) (by have := HCM.out; have := HCP.out; omega)
     refine .inr ⟨HTF.out,rfl,⟨ba,bs,bf,Value.slice (some ⟨bp,off,none⟩) M.P.length cap,sv', ?_⟩,?_⟩
     ·refine q1.wider (fun g hg => ?_) (fun g hg => ?_)
      ·rcases hg with hg | hg
       ·exact .inl hg
       ·exact .inr ⟨by have := s13.out; omega,by rw [World.size_setCell]; exact hg.2⟩
      ·rcases hg with hg | hg
       ·rw [World.size_setCell]; exact Nat.lt_of_lt_of_le (HP.out.flt g hg) HS2.out.size
       ·exact hg.2
     ·exact HS2.out.trans (q2.mono fun i hi => hi.elim .inl (fun e => .inr (by have := s13.out; omega)))
def makeCode (M : MeshM) (a b c : Int) : Int :=
 if (hasM M a && hasM M b && hasM M c) = false then 11
 else if signM M a.toNat b.toNat c.toNat ≤ 0 then 14
 else if takenB M a b c then 14 else 0
def makeR (M : MeshM) (a b c : Int) : MeshM := if makeCode M a b c = 0 then makeM M a b c else M
theorem MeshAt.stays {w w' : World} {mb n n' : Nat} {M : MeshM} {F : Nat → Prop} (h : MeshAt w mb n M F) (hb : Below w.heap.size w w') (hn : n ≤ n') :
  MeshAt w' mb n' M (fun i => F i ∨ (w.heap.size ≤ i ∧ i < w'.heap.size)) := by
 obtain ⟨ba,bs,bf,pv,sv,h⟩ := h
 refine ⟨ba,bs,bf,pv,sv,((h.below hb).mono hn).wider (fun g hg => .inl hg) (fun g hg => ?_)⟩
 rcases hg with hg | hg
 ·exact Nat.lt_of_lt_of_le (h.flt g hg) hb.size
 ·exact hg.2
theorem MeshAt.below {w w' : World} {mb n : Nat} {M : MeshM} {F : Nat → Prop} (h : MeshAt w mb n M F) (hb : Below w.heap.size w w') : MeshAt w' mb n M F := by
 obtain ⟨ba,bs,bf,pv,sv,h⟩ := h
 exact ⟨ba,bs,bf,pv,sv,h.below hb⟩
theorem MeshAt.same {w w' : World} {mb n : Nat} {M : MeshM} {F : Nat → Prop} (h : MeshAt w mb n M F) (hsz : w.heap.size ≤ w'.heap.size) (hb : ∀ g,F g → w'.heap[g]? = w.heap[g]?) : MeshAt w' mb n M F := by
 obtain ⟨ba,bs,bf,pv,sv,h⟩ := h
 exact ⟨ba,bs,bf,pv,sv,h.same hsz hb⟩
theorem MeshAt.flt {w : World} {mb n : Nat} {M : MeshM} {F : Nat → Prop} (h : MeshAt w mb n M F) : ∀ g,F g → g < w.heap.size := by
 obtain ⟨ba,bs,bf,pv,sv,h⟩ := h; exact h.flt
theorem make_walk {w : World} {mb n : Nat} {M : MeshM} {F : Nat → Prop} (h : MeshAt w mb n M F) (h64 : ∀ p,p ∈ M.P → pt64 p) (hl : M.P.length ≤ 1048576) (hn : n ≤ 1000000000) (a b c : Int) :
  Calls Tryz.prog 34 #[.pointer (some ⟨mb,0,none⟩),.int .i64 a,.int .i64 b,.int .i64 c] w fun r w' =>
   r = .returned (.int .i64 (makeCode M a b c)) ∧ MeshAt w' mb (n + 3) (makeR M a b c) (fun i => F i ∨ (w.heap.size ≤ i ∧ i < w'.heap.size)) ∧ Stay F w w' := by
 cases hh : hasM M a && hasM M b && hasM M c
 ·refine (make_index h a b c hh).mono ?_
  rintro r w' ⟨rfl,rfl⟩
  have hc : makeCode M a b c = 11 := by unfold makeCode; rw [if_pos hh]
  have hr : makeR M a b c = M := by unfold makeR; rw [hc]; rfl
  rw [hc,hr]
  exact ⟨rfl,h.stays (Below.refl _ _) (by omega),Stay.refl _ _⟩
 ·have hh' := hh
  simp only [Bool.and_eq_true] at hh'
  obtain ⟨⟨h1,h2⟩,h3⟩ := hh'
  unfold hasM at h1 h2 h3
  simp only [Bool.and_eq_true,decide_eq_true_eq] at h1 h2 h3
  obtain ⟨x,rfl⟩ : ∃ x : Nat,a = x := ⟨a.toNat,by omega⟩
  obtain ⟨y,rfl⟩ : ∃ y : Nat,b = y := ⟨b.toNat,by omega⟩
  obtain ⟨z,rfl⟩ : ∃ z : Nat,c = z := ⟨c.toNat,by omega⟩
  by_cases hs : signM M x y z ≤ 0
  ·refine (make_sign h h64 hl (a := x) (b := y) (c := z) (by omega) (by omega) (by omega) hs).mono ?_
   rintro r w' ⟨rfl,hb⟩
   have hc : makeCode M x y z = 14 := by unfold makeCode; rw [if_neg (by rw [hh]; decide),if_pos (by simpa using hs)]
   have hr : makeR M x y z = M := by unfold makeR; rw [hc]; rfl
   rw [hc,hr]
   exact ⟨rfl,h.stays hb (by omega),Stay.of_below hb⟩
  ·refine (make_rest h h64 hl hn (a := x) (b := y) (c := z) (by omega) (by omega) (by omega) (by omega)).mono ?_
   rintro r w' (⟨ht,rfl,hb⟩ | ⟨ht,rfl,hm,hst⟩)
   ·have hc : makeCode M x y z = 14 := by unfold makeCode; rw [if_neg (by rw [hh]; decide),if_neg (by simpa using hs),if_pos ht]
    have hr : makeR M x y z = M := by unfold makeR; rw [hc]; rfl
    rw [hc,hr]
    exact ⟨rfl,h.stays hb (by omega),Stay.of_below hb⟩
   ·have hc : makeCode M x y z = 0 := by unfold makeCode; rw [if_neg (by rw [hh]; decide),if_neg (by simpa using hs),if_neg (by rw [ht]; decide)]
    have hr : makeR M x y z = makeM M x y z := by unfold makeR; rw [hc]; rfl
    rw [hc,hr]
    exact ⟨rfl,hm,hst⟩
end Go.Proofs.YtbagikgpgdlkcaaGreatDoor
