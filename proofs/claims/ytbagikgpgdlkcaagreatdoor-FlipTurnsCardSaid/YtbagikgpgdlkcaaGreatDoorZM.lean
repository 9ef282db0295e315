/- Part of the proof. No conditions. -/
import Derived.Test.YtbagikgpgdlkcaaGreatDoorZL
import Derived.Shelf.Sort.Plain
import Derived.Shelf.Slices.CompactI
import Derived.Shelf.SlMaps.Clone
import Derived.Shelf.SortM.SortNone
import Derived.Shelf.SlLaysC2
import Derived.Shelf.SlicesE.DeleteFunc
set_option linter.all false
set_option maxHeartbeats 8000000
set_option maxRecDepth 100000
namespace Go.Proofs.YtbagikgpgdlkcaaGreatDoor
open Go.RowKit Go.Maps Go.WideMaps
def GotG {α : Type} (f : Int → Int → Option Int) (g : Int × Int → Option α) (lf : Value → Bool) (L : List α) : Prop :=
 L.Nodup ∧ ∀ y,y ∈ L ↔ ∃ x : Int × Int,f x.1 x.2 ≠ none ∧ g x = some y ∧ lf (kE x.1 x.2) = false
section
variable {α : Type} {f : Int → Int → Option Int} {g : Int × Int → Option α} {lf lf' : Value → Bool} {L : List α}
theorem GotG.start (h : ∀ a b,f a b ≠ none → lf (kE a b) = true) : GotG f g lf [] := by
 refine ⟨List.Pairwise.nil,fun y => ⟨fun h => (nomatch h),?_⟩⟩
 rintro ⟨x,h1,_,h2⟩
 rw [h _ _ h1] at h2; cases h2
theorem GotG.skip (h : GotG f g lf L) {x : Int × Int} (hx : g x = none) (h2 : ∀ y,y ≠ kE x.1 x.2 → lf' y = lf y) : GotG f g lf' L := by
 refine ⟨h.1,fun y => ?_⟩
 rw [h.2 y]
 constructor
 ·rintro ⟨z,a,b,c⟩
  have hz : kE z.1 z.2 ≠ kE x.1 x.2 := fun e => by
   rw [kE_inj] at e
   have : z = x := Prod.ext e.1 e.2
   rw [this,hx] at b; cases b
  exact ⟨z,a,b,by rw [h2 _ hz]; exact c⟩
 ·rintro ⟨z,a,b,c⟩
  have hz : kE z.1 z.2 ≠ kE x.1 x.2 := fun e => by
   rw [kE_inj] at e
   have : z = x := Prod.ext e.1 e.2
   rw [this,hx] at b; cases b
  exact ⟨z,a,b,by rw [← h2 _ hz]; exact c⟩
theorem GotG.add (h : GotG f g lf L) (inj : ∀ x x' y,f x.1 x.2 ≠ none → f x'.1 x'.2 ≠ none → g x = some y → g x' = some y → x = x') {x : Int × Int} {y : α} (hf : f x.1 x.2 ≠ none) (hl : lf (kE x.1 x.2) = true) (hx : g x = some y)
  (h1 : lf' (kE x.1 x.2) = false) (h2 : ∀ y,y ≠ kE x.1 x.2 → lf' y = lf y) : GotG f g lf' (L ++ [y]) := by
 have hy : y ∉ L := fun hm => by
  obtain ⟨z,a,b,c⟩ := (h.2 y).1 hm
  have := inj z x y a hf b hx
  subst this
  rw [hl] at c; cases c
 refine ⟨?_,fun z => ?_⟩
 ·unfold List.Nodup
  rw [List.pairwise_append]
  refine ⟨h.1,List.pairwise_singleton _ _,fun a ha b hb => ?_⟩
  rw [List.mem_singleton] at hb
  subst hb
  exact fun e => hy (e ▸ ha)
 ·rw [List.mem_append,List.mem_singleton,h.2 z]
  constructor
  ·rintro (⟨u,a,b,c⟩ | rfl)
   ·have hu : kE u.1 u.2 ≠ kE x.1 x.2 := fun e => by
     rw [e,hl] at c; cases c
    exact ⟨u,a,b,by rw [h2 _ hu]; exact c⟩
   ·exact ⟨x,hf,hx,h1⟩
  ·rintro ⟨u,a,b,c⟩
   by_cases hu : kE u.1 u.2 = kE x.1 x.2
   ·rw [kE_inj] at hu
    have : u = x := Prod.ext hu.1 hu.2
    subst this
    rw [hx] at b; cases b
    exact .inr rfl
   ·exact .inl ⟨u,a,b,by rw [← h2 _ hu]; exact c⟩
theorem GotG.done (h : GotG f g lf L) (hd : ∀ k,lf k = false) (y : α) : y ∈ L ↔ ∃ x : Int × Int,f x.1 x.2 ≠ none ∧ g x = some y := by
 rw [h.2 y]
 constructor
 ·rintro ⟨x,a,b,_⟩; exact ⟨x,a,b⟩
 ·rintro ⟨x,a,b⟩; exact ⟨x,a,b,hd _⟩
theorem nodup_len [DecidableEq α] : ∀ (L S : List α),L.Nodup → (∀ y,y ∈ L → y ∈ S) → L.length ≤ S.length
 | [],_,_,_ => Nat.zero_le _
 | x :: r,S,hn,hs => by
  have hn' := List.pairwise_cons.1 hn
  have hx := hs x (List.mem_cons_self ..)
  have ih := nodup_len r (S.erase x) hn'.2 fun y hy => (List.mem_erase_of_ne (fun e => hn'.1 y hy e.symm)).2 (hs y (List.mem_cons_of_mem _ hy))
  have := List.length_erase_of_mem hx
  have hp : 0 < S.length := List.length_pos_of_mem hx
  rw [List.length_cons]; omega
end
theorem idxL_len (n : Nat) : (idxL n).length = n * n := by
 unfold idxL
 rw [List.length_flatMap]
 simp only [List.length_map,List.length_range,List.map_const', List.sum_replicate_nat]
theorem edgeV_val {f : Int → Int → Option Int} {k v : Value} (h : edgeV f k = some v) : ∃ c,v = vI c := by
 obtain ⟨x,rfl⟩ := edgeV_ne (f := f) (v := k) (by rw [h]; simp)
 rw [edgeV_at] at h
 cases e : f x.1 x.2 with
 | none => rw [e] at h; cases h
 | some c => rw [e] at h; cases h; exact ⟨c,rfl⟩
theorem edgeV_some {f : Int → Int → Option Int} {a b c : Int} (h : edgeV f (kE a b) = some (vI c)) : f a b = some c := by
 rw [edgeV_at] at h
 cases e : f a b with
 | none => rw [e] at h; cases h
 | some d => rw [e] at h; simp [vI] at h; rw [h]
theorem cells_new (w : World) (cs : List Value) (t : TypeId) : ∀ j u,cs[j]? = some u → (w.alloc (.cells cs.toArray t)).cell? ((⟨w.heap.size,0,none⟩ : Addr).add j) = some u := by
 intro j u hu
 rw [Addr.add_lit,World.cell?_alloc_at _ _ _ _ rfl]
 simpa using hu
def triG (ap : Int → Int → Option Int) (x : Int × Int) : Option Tri3 := if leadB ap x = true then some (triOf ap x) else none
def bordG (ap : Int → Int → Option Int) (x : Int × Int) : Option (Int × Int) := if inB ap (sw x) = true then none else some x
def edgeG (ap : Int → Int → Option Int) (x : Int × Int) : Option (Int × Int) := if x.1 < x.2 ∨ inB ap (sw x) = false then some (minI x.1 x.2,maxI x.1 x.2) else none
theorem inB_iff {ap : Int → Int → Option Int} {x : Int × Int} : inB ap x = true ↔ ap x.1 x.2 ≠ none := by
 unfold inB; cases ap x.1 x.2 <;> simp
theorem triG_mem {ap : Int → Int → Option Int} {n : Nat} (hw : Within ap n) (y : Tri3) : (∃ x : Int × Int,ap x.1 x.2 ≠ none ∧ triG ap x = some y) ↔ y ∈ trisL ap n := by
 unfold trisL
 rw [List.mem_map]
 constructor
 ·rintro ⟨x,h1,h2⟩
  unfold triG at h2
  split at h2
  ·rename_i hl
   cases h2
   exact ⟨x,List.mem_filter.2 ⟨mem_idxL.2 (hw _ _ h1),hl⟩,rfl⟩
  ·cases h2
 ·rintro ⟨x,h1,rfl⟩
  have h2 := List.mem_filter.1 h1
  exact ⟨x,inB_iff.1 (lead_in h2.2),by unfold triG; rw [if_pos h2.2]⟩
theorem bordG_mem {ap : Int → Int → Option Int} {n : Nat} (hw : Within ap n) (y : Int × Int) : (∃ x : Int × Int,ap x.1 x.2 ≠ none ∧ bordG ap x = some y) ↔ y ∈ bordL ap n := by
 rw [mem_bordL hw]
 unfold bordB
 constructor
 ·rintro ⟨x,h1,h2⟩
  unfold bordG at h2
  split at h2
  ·cases h2
  ·rename_i hl
   cases h2
   simp only [Bool.and_eq_true,Bool.not_eq_true']
   refine ⟨inB_iff.2 h1,?_⟩
   cases e : inB ap (y.2,y.1)
   ·rfl
   ·exact absurd e hl
 ·intro h
  simp only [Bool.and_eq_true,Bool.not_eq_true'] at h
  refine ⟨y,inB_iff.1 h.1,?_⟩
  unfold bordG
  rw [if_neg]
  show ¬inB ap (y.2,y.1) = true
  rw [h.2]; simp
theorem edgeG_mem {ap : Int → Int → Option Int} {n : Nat} (hw : Within ap n) (hr : Rot ap) (y : Int × Int) : (∃ x : Int × Int,ap x.1 x.2 ≠ none ∧ edgeG ap x = some y) ↔ y ∈ edgeL ap n := by
 rw [mem_edgeL hw]
 unfold edgeB
 have ne : ∀ a b,ap a b ≠ none → a ≠ b := fun a b h => by
  obtain ⟨c,hc⟩ := Option.ne_none_iff_exists'.1 h
  exact (hr.ne _ _ _ hc).1
 constructor
 ·rintro ⟨x,h1,h2⟩
  have hne := ne _ _ h1
  unfold edgeG at h2
  split at h2
  ·rename_i hl
   cases h2
   unfold minI maxI
   by_cases hq : x.1 ≤ x.2
   ·rw [if_pos hq,if_pos hq]
    simp only [Bool.and_eq_true,Bool.or_eq_true,decide_eq_true_eq]
    exact ⟨by omega,.inl (inB_iff.2 h1)⟩
   ·rw [if_neg hq,if_neg hq]
    simp only [Bool.and_eq_true,Bool.or_eq_true,decide_eq_true_eq]
    exact ⟨by omega,.inr (inB_iff.2 h1)⟩
  ·cases h2
 ·intro h
  simp only [Bool.and_eq_true,Bool.or_eq_true,decide_eq_true_eq] at h
  by_cases hi : inB ap y = true
  ·refine ⟨y,inB_iff.1 hi,?_⟩
   unfold edgeG minI maxI
   rw [if_pos (.inl h.1),if_pos (by omega),if_pos (by omega)]
  ·have h2 := h.2.resolve_left hi
   refine ⟨sw y,inB_iff.1 h2,?_⟩
   unfold edgeG minI maxI sw
   rw [if_pos (.inr (by simpa using hi)),if_neg (by dsimp only; omega),if_neg (by dsimp only; omega)]
theorem triG_inj {ap : Int → Int → Option Int} (x x' : Int × Int) (y : Tri3) (_ : ap x.1 x.2 ≠ none) (_ : ap x'.1 x'.2 ≠ none) (h1 : triG ap x = some y) (h2 : triG ap x' = some y) : x = x' := by
 unfold triG at h1 h2
 split at h1
 ·split at h2
  ·cases h1
   simp only [Option.some.injEq,triOf,Prod.mk.injEq] at h2
   exact Prod.ext h2.1.symm h2.2.1.symm
  ·cases h2
 ·cases h1
theorem bordG_inj {ap : Int → Int → Option Int} (x x' : Int × Int) (y : Int × Int) (_ : ap x.1 x.2 ≠ none) (_ : ap x'.1 x'.2 ≠ none) (h1 : bordG ap x = some y) (h2 : bordG ap x' = some y) : x = x' := by
 unfold bordG at h1 h2
 split at h1
 ·cases h1
 ·split at h2
  ·cases h2
  ·cases h1; cases h2; rfl
theorem edgeG_inj {ap : Int → Int → Option Int} (x x' : Int × Int) (y : Int × Int) (f1 : ap x.1 x.2 ≠ none) (f2 : ap x'.1 x'.2 ≠ none) (h1 : edgeG ap x = some y) (h2 : edgeG ap x' = some y) : x = x' := by
 unfold edgeG at h1 h2
 split at h1
 ·rename_i k1
  split at h2
  ·rename_i k2
   cases h1
   simp only [Option.some.injEq,Prod.mk.injEq] at h2
   obtain ⟨a,b⟩ := x; obtain ⟨c,d⟩ := x'
   unfold minI maxI at h2
   dsimp only at h2 k1 k2 f1 f2
   by_cases e : a = c ∧ b = d
   ·exact Prod.ext e.1 e.2
   ·exfalso
    have e2 : a = d ∧ b = c := by
     obtain ⟨h3,h4⟩ := h2
     split at h3 <;> split at h3 <;> simp_all <;> omega
    obtain ⟨rfl,rfl⟩ := e2
    have g1 : inB ap (sw (a,b)) = true := inB_iff.2 f2
    have g2 : inB ap (sw (b,a)) = true := inB_iff.2 f1
    rw [g1] at k1; rw [g2] at k2
    simp at k1 k2
    omega
  ·cases h2
 ·cases h1
end Go.Proofs.YtbagikgpgdlkcaaGreatDoor
namespace Go.Proofs
open Go.Shelf
def Tryz.cloneMap_ren : Go.Shelf.Ren := ⟨fun | 5 => 82 | 7 => 106 | n => n,fun | 23 => 76 | 25 => 80 | 3 => 3 | 4 => 4 | 20 => 20 | n => n,fun | n => n⟩
end Go.Proofs
namespace Go.Proofs.YtbagikgpgdlkcaaGreatDoor
open Go.RowKit Go.Maps Go.WideMaps Go.Sort
end Go.Proofs.YtbagikgpgdlkcaaGreatDoor
namespace Go.Proofs.YtbagikgpgdlkcaaGreatDoor
open Go.RowKit Go.Maps Go.WideMaps
theorem step_gen {wr W1 W2 W2' W3 W4 : World} {mb ba bs bf n : Nat} {pv : Value} {sv : Int → Option Value} {M : MeshM} {F : Nat → Prop} (h : MeshParts wr mb ba bs bf n pv sv M F) {x : Int} {ap' : Int → Int → Option Int} {l' : List Int}
  (b01 : Below wr.heap.size wr W1) (g12 : W1.grownBy W2 (some ba)) (hap : FMap Tryz.prog W2 80 ba (n + 1) (edgeV ap'))
  (b22 : Below W2.heap.size W2 W2') (v' : Value) (g23 : W2'.grownBy W3 (atSv sv x).ownBlock) (hrow : W3.ownsInts 0 3 .i64 v' l')
  (hloc : v'.ownBlock = (atSv sv x).ownBlock ∨ v'.ownBlock = some W2'.heap.size) (hlen : l'.length ≤ n + 1)
  (hsp : FMap Tryz.prog W4 3 bs (n + 1) (updV (intV sv) (vI x) v')) (g34 : W3.grownBy W4 (some bs)) :
  MeshParts W4 mb ba bs bf (n + 1) pv (upI sv x (some v')) { M with ap := ap', sp := upI M.sp x l' } (fun i => F i ∨ (wr.heap.size ≤ i ∧ i < W4.heap.size)) ∧ Stay F wr W4 := by
 have s1 := b01.size
 have s2 := g12.size
 have s3 := b22.size
 have s4 := g23.size
 have s5 := g34.size
 have hba := h.flt ba h.fba
 have hbs := h.flt bs h.fbs
 have hbf := h.flt bf h.fbf
 have hmb := h.flt mb h.fmb
 have old : ∀ i,i < wr.heap.size → i ≠ ba → i ≠ bs → (atSv sv x).ownBlock ≠ some i → W4.heap[i]? = wr.heap[i]? := by
  intro i hi h1 h2 h3
  rw [g34.block i (by omega) (by simpa using h2),g23.block i (by omega) (fun e => h3 e.symm),b22.block i (by omega),g12.block i (by omega) (by simpa using h1),b01.block i hi]
 have rowF : ∀ g,(atSv sv x).ownBlock = some g → F g ∧ g ≠ mb ∧ pv.ownBlock ≠ some g ∧ g < wr.heap.size := by
  intro g hg
  obtain ⟨v,hv,hvg,_⟩ := atSv_block hg
  have := h.rows.inF x v g hv hvg
  exact ⟨this.1,fun e => this.2 (.inl e),fun e => this.2 (.inr e),h.flt g this.1⟩
 have rowCells : ∀ a v g,sv a = some v → v.ownBlock = some g → ∃ cur e,wr.heap[g]? = some (.cells cur e (0,0)) := by
  intro a v g hv hg
  rcases (h.rows.own a v hv).1.2 with ⟨rfl,_⟩ | ⟨g', cap,cur,rfl,_,hh,_⟩
  ·simp [Value.ownBlock] at hg
  ·simp [Value.ownBlock] at hg; subst hg; exact ⟨cur,_,hh⟩
 have isMap : ∀ {k : TypeId} {b n : Nat} {f : Value → Option Value},FMap Tryz.prog wr k b n f → ∀ a v,sv a = some v → v.ownBlock ≠ some b := by
  intro k b n f hf a v hv e
  obtain ⟨cur,ty,h1⟩ := rowCells a v b hv e
  obtain ⟨es,cl,h2⟩ := hf.isMap
  rw [h1] at h2; cases h2
 have rowNe : ∀ {k : TypeId} {b n : Nat} {f : Value → Option Value},FMap Tryz.prog wr k b n f → (atSv sv x).ownBlock ≠ some b := by
  intro k b n f hf e
  obtain ⟨v,hv,hvg,_⟩ := atSv_block e
  exact isMap hf x v hv hvg
 have mbMap : ∀ {k : TypeId} {b n : Nat} {f : Value → Option Value},FMap Tryz.prog wr k b n f → mb ≠ b := by
  intro k b n f hf e
  subst e
  obtain ⟨es,cl,h2⟩ := hf.isMap
  have := h.c0
  simp [World.cell?,h2] at this
 have pvMap : ∀ {k : TypeId} {b n : Nat} {f : Value → Option Value},FMap Tryz.prog wr k b n f → pv.ownBlock ≠ some b := by
  intro k b n f hf e
  rcases h.pts.2 with ⟨h1,_⟩ | ⟨g', cap,cur,h1,_,hh,_⟩
  ·rw [h1] at e; simp [Value.ownBlock] at e
  ·rw [h1] at e; simp [Value.ownBlock] at e; subst e
   obtain ⟨es,cl,h2⟩ := hf.isMap
   rw [hh] at h2; cases h2
 have mbOld : W4.heap[mb]? = wr.heap[mb]? := old mb hmb (mbMap h.apm) (mbMap h.spm) (fun e => (rowF mb e).2.1 rfl)
 have bfOld : W4.heap[bf]? = wr.heap[bf]? := old bf hbf (Ne.symm h.naf) (Ne.symm h.nsf) (rowNe h.fxm)
 have hc : ∀ i,W4.cell? ⟨mb,i,none⟩ = wr.cell? ⟨mb,i,none⟩ := fun i => World.cell?_of_block mbOld
 have hv'F : ∀ g,v'.ownBlock = some g → (F g ∨ (wr.heap.size ≤ g ∧ g < W4.heap.size)) ∧ g ≠ mb ∧ pv.ownBlock ≠ some g := by
  intro g hg
  rcases hloc with e | e
  ·have := rowF g (e ▸ hg); exact ⟨.inl this.1,this.2.1,this.2.2.1⟩
  ·rw [hg] at e; cases e
   have hlt := hrow.1.lt _ hg
   refine ⟨.inr ⟨by omega,by omega⟩,by omega,fun e => ?_⟩
   have := h.flt _ (h.fpv _ e); omega
 refine ⟨⟨(hc 0).trans h.c0,(hc 1).trans h.c1,(hc 2).trans h.c2,(hc 3).trans h.c3,(hc 4).trans h.c4,fun i => (World.frozen?_of_block mbOld).trans (h.fz i),?_,?_,?_,?_,?_,h.nab,h.naf,h.nsf,h.npm,.inl h.fmb,.inl h.fba,.inl h.fbs,.inl h.fbf,fun g hg => .inl (h.fpv g hg),?_,?_,by have := h.cb; show -((n + 1 : Nat) : Int) ≤ M.cnt ∧ M.cnt ≤ ((n + 1 : Nat) : Int); omega⟩,?_⟩
 ·exact ownsRow_same h.pts fun g hg => old g (h.flt g (h.fpv g hg)) (fun e => pvMap h.apm (e ▸ hg)) (fun e => pvMap h.spm (e ▸ hg)) (fun e => (rowF g e).2.2.1 hg)
 ·have : FMap Tryz.prog W4 80 ba (n + 1) (edgeV ap') := by
   refine hap.same ?_
   rw [g34.block ba (by omega) (by simpa using h.nab),g23.block ba (by omega) (fun e => rowNe h.apm e.symm),b22.block ba (by omega)]
  exact this
 ·have := hsp
  rw [intV_up] at this
  exact this
 ·exact (h.fxm.mono (Nat.le_succ n)).same bfOld
 ·refine ⟨fun a ha => ?_,fun a v hv => ?_,fun a a' v u hne hv hu => ?_,fun a v g hv hg => ?_⟩
  ·by_cases e : a = x
   ·subst e; rw [upI_same] at ha; cases ha
   ·rw [upI_other _ _ e] at ha
    show upI M.sp x _ a = []
    rw [upI_other _ _ e]; exact h.rows.none a ha
  ·by_cases e : a = x
   ·subst e; rw [upI_same] at hv; cases hv
    show W4.ownsInts 0 _ _ v' (upI M.sp a _ a)
    rw [upI_same]
    refine ⟨ownsRow_same hrow.1 fun g hg => g34.block g (hrow.1.lt g hg).2 ?_,hrow.2⟩
    intro e
    simp only [Option.some.injEq] at e
    subst e
    rcases hloc with e | e
    ·exact rowNe h.spm (e ▸ hg)
    ·rw [hg] at e; cases e; omega
   ·rw [upI_other _ _ e] at hv
    show W4.ownsInts 0 _ _ v (upI M.sp x _ a)
    rw [upI_other _ _ e]
    refine ⟨ownsRow_same (h.rows.own a v hv).1 fun g hg => ?_,(h.rows.own a v hv).2⟩
    refine old g (h.flt g (h.rows.inF a v g hv hg).1) (fun e => isMap h.apm a v hv (e ▸ hg)) (fun e => isMap h.spm a v hv (e ▸ hg)) (fun e1 => ?_)
    obtain ⟨u,hu,hug,_⟩ := atSv_block e1
    rcases h.rows.dis a x v u e hv hu with d | d
    ·rw [hg] at d; cases d
    ·exact d (hg.trans hug.symm)
  ·
   have key : ∀ a v,a ≠ x → sv a = some v → v.ownBlock = none ∨ v.ownBlock ≠ v'.ownBlock := by
    intro a v hne hv
    cases hb : v.ownBlock with
    | none => exact .inl rfl
    | some g =>
     right; intro e
     rcases hloc with e1 | e1
     ·rw [e1] at e
      obtain ⟨u,hu,hug,_⟩ := atSv_block e.symm
      rcases h.rows.dis a x v u hne hv hu with d | d
      ·rw [hb] at d; cases d
      ·exact d (hb.trans hug.symm)
     ·rw [e1] at e; cases e
      have := h.flt _ (h.rows.inF a v _ hv hb).1
      omega
   by_cases e : a = x
   ·subst e; rw [upI_same] at hv; cases hv
    rw [upI_other _ _ (Ne.symm hne)] at hu
    rcases key a' u (Ne.symm hne) hu with d | d
    ·cases hb : v'.ownBlock with
     | none => exact .inl rfl
     | some g => right; rw [d]; simp
    ·exact .inr (Ne.symm d)
   ·rw [upI_other _ _ e] at hv
    by_cases e' : a' = x
    ·subst e'; rw [upI_same] at hu; cases hu
     exact key a v e hv
    ·rw [upI_other _ _ e'] at hu
     exact h.rows.dis a a' v u hne hv hu
  ·by_cases e : a = x
   ·subst e; rw [upI_same] at hv; cases hv
    have := hv'F g hg
    exact ⟨this.1,fun e => e.elim this.2.1 this.2.2⟩
   ·rw [upI_other _ _ e] at hv
    exact ⟨.inl (h.rows.inF a v g hv hg).1,(h.rows.inF a v g hv hg).2⟩
 ·intro g hg
  rcases hg with hg | hg
  ·have := h.flt g hg; omega
  ·exact hg.2
 ·intro a
  show (upI M.sp x _ a).length ≤ _
  by_cases e : a = x
  ·subst e; rw [upI_same]
   exact hlen
  ·rw [upI_other _ _ e]
   have := h.spl a; omega
 ·refine ⟨?_,?_,?_,by omega,fun i hi hF => old i hi (fun e => hF (e ▸ h.fba)) (fun e => hF (e ▸ h.fbs)) (fun e => hF (rowF i e).1)⟩
  ·rw [g34.os,g23.os,b22.os,g12.os,b01.os]
  ·rw [g34.tape,g23.tape,b22.tape,g12.tape,b01.tape]
  ·rw [g34.output,g23.output,b22.output,g12.output,b01.output]
end Go.Proofs.YtbagikgpgdlkcaaGreatDoor
namespace Go.Proofs
open Go.Shelf
def Tryz.delInt_ren : Go.Shelf.Ren := ⟨fun | 10 => 78 | 6 => 103 | n => n,fun | 22 => 108 | 23 => 3 | 25 => 103 | 3 => 3 | 4 => 4 | 0 => 0 | n => n,fun | n => n⟩
theorem Tryz.delInt : Go.Proofs.SlLaysH.n10 Tryz.prog Tryz.delInt_ren := {
 mixed := by kernel_rfl
 f6 := ⟨Tryz.f103.name,by decide,Tryz.func103.trans (congrArg some (by kernel_rfl))⟩
 f10 := ⟨Tryz.f78.name,by decide,Tryz.func78.trans (congrArg some (by kernel_rfl))⟩
 t0 := Tryz.underlying0
 a0 := Tryz.isAgg0
 z0 := Tryz.sizeOf0
 v0 := Tryz.zeroValue0
 t3 := Tryz.underlying3
 a3 := Tryz.isAgg3
 z3 := Tryz.sizeOf3
 v3 := Tryz.zeroValue3
 t4 := Tryz.underlying4
 a4 := Tryz.isAgg4
 z4 := Tryz.sizeOf4
 v4 := Tryz.zeroValue4
 t22 := Tryz.underlying108
 a22 := Tryz.isAgg108
 z22 := Tryz.sizeOf108
 v22 := Tryz.zeroValue108
 a23 := Tryz.isAgg3
 z23 := Tryz.sizeOf3
 t25 := Tryz.underlying103
 a25 := Tryz.isAgg103
 z25 := Tryz.sizeOf103
 v25 := Tryz.zeroValue103 }
def Tryz.cmpInt_ren : Go.Shelf.Ren := ⟨fun | 5 => 109 | 7 => 152 | n => n,fun | 22 => 3 | 3 => 3 | 4 => 4 | n => n,fun | n => n⟩
theorem Tryz.cmpInt : Go.Proofs.SlLaysC2.n5 Tryz.prog Tryz.cmpInt_ren := {
 mixed := by kernel_rfl
 f5 := ⟨Tryz.f109.name,by decide,Tryz.func109.trans (congrArg some (by kernel_rfl))⟩
 f7 := ⟨Tryz.f152.name,by decide,Tryz.func152.trans (congrArg some (by kernel_rfl))⟩
 t3 := Tryz.underlying3
 a3 := Tryz.isAgg3
 z3 := Tryz.sizeOf3
 v3 := Tryz.zeroValue3
 t4 := Tryz.underlying4
 a4 := Tryz.isAgg4
 z4 := Tryz.sizeOf4
 v4 := Tryz.zeroValue4
 t22 := Tryz.underlying3
 a22 := Tryz.isAgg3
 z22 := Tryz.sizeOf3
 v22 := Tryz.zeroValue3 }
end Go.Proofs
namespace Go.Proofs.YtbagikgpgdlkcaaGreatDoor
open Go.RowKit Go.Maps Go.WideMaps Go.Sort
theorem kill1_walk (eb : Nat) (b x : Int) (w : World) (hc : w.cell? ⟨eb,1,none⟩ = some (.int .i64 b)) :
  Calls Tryz.prog 79 #[.int .i64 x,.pointer (some ⟨eb,0,none⟩)] w fun e w' => e = .returned (.bool (decide (x = b))) ∧ w' = w := by
 by_cases h : x = b
 all_goals
  go_enter Tryz.func79,Tryz.ntmps79
  go_wp2
  go_ret
  refine ⟨?_,rfl⟩
  simp [h]
theorem enters_kill1 : ∀ args w,(callFunc 79 args).run Tryz.prog w = .ok (.enter 79 args) w := enters_of Tryz.func79 (by kernel_rfl) rfl
theorem delete_nil (n c : Nat) (hn : n = 0) (g : Nat) (lb : Array Value) (w : World) :
  Calls Tryz.prog 78 #[.slice none n c,.func (.func g) #[] lb] w fun r w' => r = .returned (.slice none n c) ∧ w' = w := by
 subst hn
 have hI := AnyE.slices_IndexFunc_empty (P := Tryz.prog) { Tryz.delInt with } none c (.func (.func g) #[] lb) w
 change Calls Tryz.prog 103 _ _ _ at hI
 go_enter Tryz.func78,Tryz.ntmps78
 go_wp2_with (go_at_call 103; refine hI.mono ?_; rintro r w1 ⟨rfl,rfl⟩)
 go_ret
 exact ⟨rfl,rfl⟩
theorem deleteFunc_walk {w : World} {v : Value} {zs : List Int} (h : w.ownsInts 0 3 .i64 v zs) (eb : Nat) (b : Int) (hc : w.cell? ⟨eb,1,none⟩ = some (.int .i64 b)) (hne : v.ownBlock ≠ some eb) (hsz : zs.length ≤ 1000000000000) :
  Calls Tryz.prog 78 #[v,.func (.func 79) #[] #[.pointer (some ⟨eb,0,none⟩)]] w fun r w' =>
   ∃ v', r = .returned v' ∧ w'.ownsInts 0 3 .i64 v' (zs.filter fun x => !decide (x = b)) ∧ w.grownBy w' v.ownBlock ∧ v'.ownBlock = v.ownBlock := by
 have hwf : ∀ z ∈ zs.filter (fun x => !decide (x = b)),(Lit.int .i64 z).wf = true := fun z hz => h.2 z (List.mem_filter.1 hz).1
 rcases h.1.2 with ⟨rfl,h0⟩ | ⟨g,cap,cur,rfl,hb,hh,hn,hm,hs,ht⟩
 ·have : zs = [] := List.length_eq_zero_iff.1 h0
  subst this
  refine (delete_nil 0 0 rfl _ _ w).mono ?_
  rintro r w' ⟨rfl,rfl⟩
  exact ⟨_,rfl,World.ownsInts_nil _ _ _ _,⟨rfl,rfl,rfl,Nat.le_refl _,fun _ _ _ => rfl⟩,rfl⟩
 ·have hgeb : eb ≠ g := fun e => hne (by rw [e]; rfl)
  have hebl := World.block_lt_of_cell? _ _ hc
  have hH : Holds (Value.int .i64) w g 0 zs.toArray := owns_holds h.1
  have hgl : g < w.heap.size := (Array.getElem?_eq_some_iff.1 hh).1
  have hcon := AnyE.slices_DeleteFunc (P := Tryz.prog) Tryz.delInt (Value.int .i64) (fun _ => rfl) (fun x => decide (x = b)) 79 #[.pointer (some ⟨eb,0,none⟩)] enters_kill1 0 (fun w => zeroInt w) g 0 cap zs.toArray w
   (fun W x hbw => (kill1_walk eb b x W ((hbw.cell (p := ⟨eb,1,none⟩) hebl).trans hc)).mono fun _ _ ⟨he,hw⟩ => ⟨he,0,hw⟩)
   (fun n os dk x _ => (kill1_walk eb b x _ (by
    unfold sortWorld
    rw [cell?_grow _ _ _ (by rw [size_putRow]; exact hebl),cell?_putRow_other _ _ _ _ _ _ (.inl hgeb)]
    exact hc)).mono fun _ _ ⟨he,hw⟩ => ⟨he,0,hw⟩)
   hH (by simp; omega) (by simpa using hn)
  change Calls Tryz.prog 78 _ _ _ at hcon
  rw [List.size_toArray] at hcon
  refine hcon.mono ?_
  rintro r w' ⟨rfl,q,rfl⟩
  have hlen := List.length_filter_le (fun x => !decide (x = b)) zs
  rw [putRow_enc]
  refine ⟨_,rfl,⟨?_,hwf⟩,put_grown _ _ _ _ _,rfl⟩
  have := owns_put h.1 q (((zs.filter fun x => !decide (x = b)) ++ List.replicate (zs.length - (zs.filter fun x => !decide (x = b)).length) 0).toArray.map (Value.int .i64)) (n' := (zs.filter fun x => !decide (x = b)).length) (by simp) (by simp; omega) hlen
  simpa using this
end Go.Proofs.YtbagikgpgdlkcaaGreatDoor
namespace Go.Proofs.YtbagikgpgdlkcaaGreatDoor
open Go.RowKit Go.Maps Go.WideMaps
theorem round_del {w wr W W2 W2' W3 W4 : World} {mb ba bs bf n : Nat} {pv : Value} {sv : Int → Option Value} {M : MeshM} {F : Nat → Prop}
  (h : MeshParts wr mb ba bs bf n pv sv M (fun i => F i ∨ (w.heap.size ≤ i ∧ i < wr.heap.size))) (hst : Stay F w wr) (hF : ∀ i,F i → i < w.heap.size)
  {x y : Int} (b01 : Below wr.heap.size wr W) (g12 : W.grownBy W2 (some ba)) (hap : FMap Tryz.prog W2 80 ba n (delV (edgeV M.ap) (kE x y)))
  (b22 : Below W2.heap.size W2 W2') (v' : Value) (g23 : W2'.grownBy W3 (atSv sv x).ownBlock) (hrow : W3.ownsInts 0 3 .i64 v' ((M.sp x).filter fun x => !decide (x = y)))
  (hloc : v'.ownBlock = (atSv sv x).ownBlock) (hsp : FMap Tryz.prog W4 3 bs (n + 1) (updV (intV sv) (vI x) v')) (g34 : W3.grownBy W4 (some bs)) :
  MeshParts W4 mb ba bs bf (n + 1) pv (upI sv x (some v')) (dropE M x y) (fun i => F i ∨ (w.heap.size ≤ i ∧ i < W4.heap.size)) ∧ Stay F w W4 := by
 rw [edgeV_del] at hap
 obtain ⟨p,st⟩ := step_gen h b01 g12 (hap.mono (Nat.le_succ n)) b22 v' g23 hrow (.inl hloc) (Nat.le_trans (List.length_filter_le _ _) (Nat.le_trans (h.spl x) (Nat.le_succ n))) hsp g34
 have hs := st.size
 have hs0 := hst.size
 refine ⟨p.wider (fun g hg => ?_) (fun g hg => ?_),hst.trans (st.mono fun i hi => ?_)⟩
 ·rcases hg with (hg | hg) | hg
  ·exact .inl hg
  ·exact .inr ⟨hg.1,by omega⟩
  ·exact .inr ⟨by omega,hg.2⟩
 ·rcases hg with hg | hg
  ·have := hF g hg; omega
  ·exact hg.2
 ·rcases hi with hi | hi
  ·exact .inl hi
  ·exact .inr hi.1
def triI (a b c : Int) (k : Nat) : Int := if k = 0 then a else if k = 1 then b else if k = 2 then c else if k = 3 then a else b
def Dk (M : MeshM) (a b c : Int) : Nat → MeshM
 | 0 => M
 | k + 1 => dropE (Dk M a b c k) (triI a b c k) (triI a b c (k + 1))
theorem Dk_cnt (M : MeshM) (a b c : Int) (k : Nat) : (Dk M a b c k).cnt = M.cnt := by induction k with | zero => rfl | succ k ih => exact ih
theorem kill_none {w : World} {mb n : Nat} {M : MeshM} {F : Nat → Prop} (h : MeshAt w mb n M F) {a b c : Int} (ha : i64ok a) (hb : i64ok b) (hk : M.ap a b ≠ some c) :
  Calls Tryz.prog 35 #[.pointer (some ⟨mb,0,none⟩),.int .i64 a,.int .i64 b,.int .i64 c] w fun r w' => r = .returned (.int .i64 5) ∧ w' = w := by
 obtain ⟨ba,bs,bf,pv,sv,h⟩ := h
 have c1 := h.c1
 have HF := Lib.hid h.apm
 have HK := Lib.hid (keyE ha hb)
 have HV := Lib.hid (edgeV_getD M.ap a b)
 have HI := Lib.hid (edgeV_isSome M.ap a b)
 clear h ha hb
 generalize M.ap a b = o at *
 cases o with
 | none =>
  go_enter Tryz.func35,Tryz.ntmps35
  go_wp2_with (at_lookup; refine wp_look_ok _ rfl _ _ 76 rfl 80 3 edgeLaw Tryz.underlying76 (.int .i64 0) (zeroInt _) ba n _ rfl HF.out _ rfl _ HK.out _ HV.out _ HI.out ?_)
  go_ret
  exact ⟨rfl,rfl⟩
 | some v =>
  have hvc : v ≠ c := fun e => hk (by rw [e])
  go_enter Tryz.func35,Tryz.ntmps35
  go_wp2_with (at_lookup; refine wp_look_ok _ rfl _ _ 76 rfl 80 3 edgeLaw Tryz.underlying76 (.int .i64 0) (zeroInt _) ba n _ rfl HF.out _ rfl _ HK.out _ HV.out _ HI.out ?_)
  go_ret
  exact ⟨rfl,rfl⟩
theorem kill_some {w : World} {mb n : Nat} {M : MeshM} {F : Nat → Prop} (h : MeshAt w mb n M F) (hn : n ≤ 1000000000) {a b c : Int} (ha : i64ok a) (hb : i64ok b) (hc : i64ok c) (hk : M.ap a b = some c) :
  Calls Tryz.prog 35 #[.pointer (some ⟨mb,0,none⟩),.int .i64 a,.int .i64 b,.int .i64 c] w fun r w' =>
   r = .returned (.int .i64 0) ∧ MeshAt w' mb (n + 3) (killM M a b c) (fun i => F i ∨ (w.heap.size ≤ i ∧ i < w'.heap.size)) ∧ Stay F w w' := by
 obtain ⟨ba,bs,bf,pv,sv,h⟩ := h
 have c1 := h.c1
 have HL := Lib.hid (lookE h.apm ha hb)
 rw [hk] at HL
 have HAR := Lib.hid (around_walk a b c w)
 have HP := Lib.hid h
 have HE0 := Lib.hid ha
 have HE1 := Lib.hid hb
 have HE2 := Lib.hid hc
 clear h ha hb hc hk
 have hl := HL.out
 simp only [Option.getD_some,Option.isSome_some] at hl
 have hi0 := idx3_0 (.int .i64 a) (.int .i64 b) (.int .i64 b) (.int .i64 c) (.int .i64 c) (.int .i64 a)
 have hi1 := idx3_1 (.int .i64 a) (.int .i64 b) (.int .i64 b) (.int .i64 c) (.int .i64 c) (.int .i64 a)
 have hi2 := idx3_2 (.int .i64 a) (.int .i64 b) (.int .i64 b) (.int .i64 c) (.int .i64 c) (.int .i64 a)
 go_enter Tryz.func35,Tryz.ntmps35
 go_wp2_with (go_at_call 77; refine HAR.out.mono ?_; rintro r w1 ⟨rfl,hb1⟩)
 have HB1 := Lib.hid hb1
 clear HAR hb1 c1 hl HL
 go_loopw [37] (fun i wq => ∃ (k : Nat) (sv' : Int → Option Value),k ≤ 3 ∧ i = .int .i64 k ∧ Hid (MeshParts wq mb ba bs bf (n + k) pv sv' (Dk M a b c k) (fun i => F i ∨ (w.heap.size ≤ i ∧ i < wq.heap.size))) ∧ Hid (Stay F w wq)) (fun i _ => 3 - (intOf i).toNat)
 case atStart =>
  refine ⟨0,sv,by omega,rfl,(HP.out.below HB1.out).wider (fun g hg => .inl hg) (fun g hg => ?_),Stay.of_below HB1.out⟩
  rcases hg with hg | hg
  ·exact Nat.lt_of_lt_of_le (HP.out.flt g hg) HB1.out.size
  ·exact hg.2
 case round =>
  obtain ⟨k,sv', hk,rfl,HQ,HS2⟩ := hrel
  by_cases hlt : k < 3
  ·have hk3 : k = 0 ∨ k = 1 ∨ k = 2 := by omega
   obtain ⟨W,hW⟩ : ∃ W,W = wr.alloc (.cells #[.int .i64 (triI a b c k),.int .i64 (triI a b c (k + 1))] 80) := ⟨_,rfl⟩
   have HBW : Hid (Below wr.heap.size wr W) := by rw [hW]; exact (Below.refl _ _).alloc (Nat.le_refl _) _
   have e0 : W.cell? ⟨wr.heap.size,0,none⟩ = some (.int .i64 (triI a b c k)) := by rw [hW,World.cell?_alloc_at _ _ _ _ rfl]; rfl
   have e1 : W.cell? ⟨wr.heap.size,1,none⟩ = some (.int .i64 (triI a b c (k + 1))) := by rw [hW,World.cell?_alloc_at _ _ _ _ rfl]; rfl
   have c1 := (HQ.out.below HBW.out).c1
   have c2 := (HQ.out.below HBW.out).c2
   have HAP := Lib.hid (HQ.out.below HBW.out.drew).apm
   have HW := Lib.hid hW
   have HKX : Hid (i64ok (triI a b c k : Int)) := by rcases hk3 with rfl | rfl | rfl <;> first | exact HE0.out | exact HE1.out | exact HE2.out
   have HKY : Hid (i64ok (triI a b c (k + 1) : Int)) := by rcases hk3 with rfl | rfl | rfl <;> first | exact HE0.out | exact HE1.out | exact HE2.out
   have HK := Lib.hid (keyE HKX.out HKY.out)
   have HSP := Lib.hid (HQ.out.below HBW.out).spm
   have HROW := Lib.hid ((HQ.out.below HBW.out).rows.at (triI a b c k))
   have HRB := Lib.hid ((HQ.out.below HBW.out).row_ne (HQ.out.below HBW.out.drew).apm (triI a b c k))
   have HRF := Lib.hid (HQ.out.row_facts (triI a b c k))
   have HSL := Lib.hid (HQ.out.spl (triI a b c k))
   have HNE : Hid (mb ≠ ba ∧ bs ≠ ba ∧ wr.heap.size ≠ ba) := ⟨HQ.out.mb_ne HQ.out.apm,Ne.symm HQ.out.nab,fun e => by have := HQ.out.apm.lt; omega⟩
   clear hW
   rcases hk3 with rfl | rfl | rfl
   ·simp [triI] at c1 e0 e1 HK HAP HSP HROW HRB HRF HSL HKX
    go_wp2
    have hW' := HW.out
    simp [triI] at hW'
    rw [← hW']
    clear hW'
    go_still_tail 5,(by kernel_rfl)
    clear c1
    go_wp2_with (at_delete; refine wp_delete _ rfl _ _ 76 80 rfl 3 edgeLaw Tryz.underlying76 ba _ _ rfl HAP.out _ rfl _ HK.out ?_; intro W2 hap2 hg2)
    go_frame
    have HG2 : Hid (W.grownBy W2 (some ba)) := grown_drew (w := W) hg2
    have HAP2 := Lib.hid hap2
    clear hap2 hg2
    have n2 : Reads3 W2.drew mb bs wr.heap.size (.int .i64 a) (.int .i64 b) := Reads3.grown (w := W) (w' := W2) ⟨c2,e0,e1⟩ HG2.out (by simpa using HNE.out.1) (by simpa using HNE.out.2.2)
    have HSP2 := Lib.hid (FMap.kept HSP.out HG2.out (by simpa using HNE.out.2.1))
    have hS2 := lookS (w := W2.drew) HSP2.out HKX.out
    have HOI := Lib.hid (World.ownsInts.kept HROW.out HG2.out (.inr HRB.out))
    have HD := Lib.hid (deleteFunc_walk (w := W2.drew) HOI.out wr.heap.size b n2.2.2 HRF.out.2.1 (by have := HSL.out; omega))
    clear c2 e0 e1
    go_region_held3 (fun w' => w'.cell? ⟨mb,2,none⟩ = some (.map (some bs)) ∧ w'.cell? ⟨wr.heap.size,0,none⟩ = some (.int .i64 a) ∧ w'.cell? ⟨wr.heap.size,1,none⟩ = some (.int .i64 b)) (first | assumption | exact n2 | exact n3 | exact n4)
     (first
      |(go_at_call 78; refine HD.out.mono ?_
        rintro r W3 ⟨v3,rfl,hown3,hg3,hloc3⟩
        have n3 := Reads3.grown n2 hg3 (fun e => HRF.out.1 e.symm) (fun e => HRF.out.2.1 e.symm)
        obtain ⟨W4,hrun4,hsp4,hg4⟩ := FMap.store (key := .int .i64 a) (FMap.kept HSP2.out.drew hg3 (fun e => HRF.out.2.2.1 e.symm)) intLaw Tryz.underlying77 (by unfold maxLen; omega) (keyI HKX.out) v3
        have n4 := Reads3.grown n3 hg4 (by simpa using HRF.out.2.2.2.1) (by simpa using HRF.out.2.2.2.2)))
    all_goals
     go_wp2
     obtain ⟨p1,p2⟩ := round_del (n := n + 0) (M := Dk M a b c 0) HQ.out HS2.out HP.out.flt HBW.out HG2.out HAP2.out ((Below.refl _ W2).drew) v3 hg3 hown3 hloc3 hsp4 hg4
     refine ⟨?_,?_⟩
     ·exact ⟨1,_,by omega,rfl,p1,p2⟩
     ·simp [intOf]
   ·simp [triI] at c1 e0 e1 HK HAP HSP HROW HRB HRF HSL HKX
    go_wp2
    have hW' := HW.out
    simp [triI] at hW'
    rw [← hW']
    clear hW'
    go_still_tail 5,(by kernel_rfl)
    clear c1
    go_wp2_with (at_delete; refine wp_delete _ rfl _ _ 76 80 rfl 3 edgeLaw Tryz.underlying76 ba _ _ rfl HAP.out _ rfl _ HK.out ?_; intro W2 hap2 hg2)
    go_frame
    have HG2 : Hid (W.grownBy W2 (some ba)) := grown_drew (w := W) hg2
    have HAP2 := Lib.hid hap2
    clear hap2 hg2
    have n2 : Reads3 W2.drew mb bs wr.heap.size (.int .i64 b) (.int .i64 c) := Reads3.grown (w := W) (w' := W2) ⟨c2,e0,e1⟩ HG2.out (by simpa using HNE.out.1) (by simpa using HNE.out.2.2)
    have HSP2 := Lib.hid (FMap.kept HSP.out HG2.out (by simpa using HNE.out.2.1))
    have hS2 := lookS (w := W2.drew) HSP2.out HKX.out
    have HOI := Lib.hid (World.ownsInts.kept HROW.out HG2.out (.inr HRB.out))
    have HD := Lib.hid (deleteFunc_walk (w := W2.drew) HOI.out wr.heap.size c n2.2.2 HRF.out.2.1 (by have := HSL.out; omega))
    clear c2 e0 e1
    go_region_held3 (fun w' => w'.cell? ⟨mb,2,none⟩ = some (.map (some bs)) ∧ w'.cell? ⟨wr.heap.size,0,none⟩ = some (.int .i64 b) ∧ w'.cell? ⟨wr.heap.size,1,none⟩ = some (.int .i64 c)) (first | assumption | exact n2 | exact n3 | exact n4)
     (first
      |(go_at_call 78; refine HD.out.mono ?_
        rintro r W3 ⟨v3,rfl,hown3,hg3,hloc3⟩
        have n3 := Reads3.grown n2 hg3 (fun e => HRF.out.1 e.symm) (fun e => HRF.out.2.1 e.symm)
        obtain ⟨W4,hrun4,hsp4,hg4⟩ := FMap.store (key := .int .i64 b) (FMap.kept HSP2.out.drew hg3 (fun e => HRF.out.2.2.1 e.symm)) intLaw Tryz.underlying77 (by unfold maxLen; omega) (keyI HKX.out) v3
        have n4 := Reads3.grown n3 hg4 (by simpa using HRF.out.2.2.2.1) (by simpa using HRF.out.2.2.2.2)))
    all_goals
     go_wp2
     obtain ⟨p1,p2⟩ := round_del (n := n + 1) (M := Dk M a b c 1) HQ.out HS2.out HP.out.flt HBW.out HG2.out HAP2.out ((Below.refl _ W2).drew) v3 hg3 hown3 hloc3 hsp4 hg4
     refine ⟨?_,?_⟩
     ·exact ⟨2,_,by omega,rfl,p1,p2⟩
     ·simp [intOf]
   ·simp [triI] at c1 e0 e1 HK HAP HSP HROW HRB HRF HSL HKX
    go_wp2
    have hW' := HW.out
    simp [triI] at hW'
    rw [← hW']
    clear hW'
    go_still_tail 5,(by kernel_rfl)
    clear c1
    go_wp2_with (at_delete; refine wp_delete _ rfl _ _ 76 80 rfl 3 edgeLaw Tryz.underlying76 ba _ _ rfl HAP.out _ rfl _ HK.out ?_; intro W2 hap2 hg2)
    go_frame
    have HG2 : Hid (W.grownBy W2 (some ba)) := grown_drew (w := W) hg2
    have HAP2 := Lib.hid hap2
    clear hap2 hg2
    have n2 : Reads3 W2.drew mb bs wr.heap.size (.int .i64 c) (.int .i64 a) := Reads3.grown (w := W) (w' := W2) ⟨c2,e0,e1⟩ HG2.out (by simpa using HNE.out.1) (by simpa using HNE.out.2.2)
    have HSP2 := Lib.hid (FMap.kept HSP.out HG2.out (by simpa using HNE.out.2.1))
    have hS2 := lookS (w := W2.drew) HSP2.out HKX.out
    have HOI := Lib.hid (World.ownsInts.kept HROW.out HG2.out (.inr HRB.out))
    have HD := Lib.hid (deleteFunc_walk (w := W2.drew) HOI.out wr.heap.size a n2.2.2 HRF.out.2.1 (by have := HSL.out; omega))
    clear c2 e0 e1
    go_region_held3 (fun w' => w'.cell? ⟨mb,2,none⟩ = some (.map (some bs)) ∧ w'.cell? ⟨wr.heap.size,0,none⟩ = some (.int .i64 c) ∧ w'.cell? ⟨wr.heap.size,1,none⟩ = some (.int .i64 a)) (first | assumption | exact n2 | exact n3 | exact n4)
     (first
      |(go_at_call 78; refine HD.out.mono ?_
        rintro r W3 ⟨v3,rfl,hown3,hg3,hloc3⟩
        have n3 := Reads3.grown n2 hg3 (fun e => HRF.out.1 e.symm) (fun e => HRF.out.2.1 e.symm)
        obtain ⟨W4,hrun4,hsp4,hg4⟩ := FMap.store (key := .int .i64 c) (FMap.kept HSP2.out.drew hg3 (fun e => HRF.out.2.2.1 e.symm)) intLaw Tryz.underlying77 (by unfold maxLen; omega) (keyI HKX.out) v3
        have n4 := Reads3.grown n3 hg4 (by simpa using HRF.out.2.2.2.1) (by simpa using HRF.out.2.2.2.2)))
    all_goals
     go_wp2
     obtain ⟨p1,p2⟩ := round_del (n := n + 2) (M := Dk M a b c 2) HQ.out HS2.out HP.out.flt HBW.out HG2.out HAP2.out ((Below.refl _ W2).drew) v3 hg3 hown3 hloc3 hsp4 hg4
     refine ⟨?_,?_⟩
     ·exact ⟨3,_,by omega,rfl,p1,p2⟩
     ·simp [intOf]
  ·have e : k = 3 := by omega
   subst e
   have c3 := HQ.out.c3
   have fz := HQ.out.fz 3
   have HCB := Lib.hid HQ.out.cb
   have HCM := Lib.hid (Dk_cnt M a b c 3)
   have HCP := Lib.hid HP.out.cb
   have hwr : IntKind.i64.wrap ((Dk M a b c 3).cnt - 1) = (Dk M a b c 3).cnt - 1 := by
    have := HCB.out
    simp [IntKind.wrap,IntKind.bits,IntKind.signed]; omega
   clear hlt hk
   go_wp2
   go_ret
   obtain ⟨q1,q2⟩ := cnt_parts HQ.out ((Dk M a b c 3).cnt - 1) (by have := HCM.out; have := HCP.out; omega)
   refine ⟨rfl,⟨ba,bs,bf,pv,sv', ?_⟩,HS2.out.trans (q2.mono fun i hi => hi.elim .inl (fun e => .inr e.1))⟩
   rw [HCM.out] at q1
   refine q1.wider (fun g hg => ?_) (fun g hg => ?_)
   ·rcases hg with hg | hg
    ·exact .inl hg
    ·exact .inr ⟨hg.1,by rw [World.size_setCell]; exact hg.2⟩
   ·rcases hg with hg | hg
    ·rw [World.size_setCell]; exact Nat.lt_of_lt_of_le (HP.out.flt g hg) HS2.out.size
    ·exact hg.2
theorem kill_walk {w : World} {mb n : Nat} {M : MeshM} {F : Nat → Prop} (h : MeshAt w mb n M F) (hn : n ≤ 1000000000) {a b c : Int} (ha : i64ok a) (hb : i64ok b) (hc : i64ok c) :
  Calls Tryz.prog 35 #[.pointer (some ⟨mb,0,none⟩),.int .i64 a,.int .i64 b,.int .i64 c] w fun r w' =>
   r = .returned (.int .i64 (killCode M a b c)) ∧ MeshAt w' mb (n + 3) (killR M a b c) (fun i => F i ∨ (w.heap.size ≤ i ∧ i < w'.heap.size)) ∧ Stay F w w' := by
 unfold killCode killR
 by_cases hk : M.ap a b = some c
 ·rw [if_pos hk,if_pos hk]
  exact kill_some h hn ha hb hc hk
 ·rw [if_neg hk,if_neg hk]
  refine (kill_none h ha hb hk).mono ?_
  rintro r w' ⟨rfl,rfl⟩
  exact ⟨rfl,h.stays (Below.refl _ _) (by omega),Stay.refl _ _⟩
open Go.Sort
theorem wrapS {k : Nat} (h : k ≤ 4000000000000) : wrap64 ((k : Int) + 1) = ((k + 1 : Nat) : Int) := by unfold wrap64; omega
end Go.Proofs.YtbagikgpgdlkcaaGreatDoor
