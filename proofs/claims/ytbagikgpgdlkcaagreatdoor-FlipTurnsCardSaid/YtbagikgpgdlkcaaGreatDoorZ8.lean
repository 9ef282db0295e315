/- Part of the proof. No conditions. -/
import Derived.Test.YtbagikgpgdlkcaaGreatDoorZ7
import Derived.Maps.OwnRows
import Derived.Handy
import Derived.StillTailTactics
set_option linter.all false
set_option maxHeartbeats 8000000
set_option maxRecDepth 100000
namespace Go.Proofs.YtbagikgpgdlkcaaGreatDoor
open Go.RowKit Go.Maps Go.WideMaps
theorem laidOut : laidOutB Tryz.prog = true := by kernel_rfl
theorem edgeArr : ArrKey Tryz.prog 80 3 2 := ⟨Tryz.underlying80,by kernel_rfl,by kernel_rfl,by kernel_rfl⟩
theorem edgeRow : Tryz.prog.types.size.ble 80 = false := by kernel_rfl
theorem edgeRow' : (80 : TypeId) < Tryz.prog.types.size := Nat.lt_of_not_le fun h => Bool.noConfusion (edgeRow.symm.trans (Nat.ble_eq_true_of_le h))
theorem edgeDeep : Tryz.prog.keyTypeAt 2 80 = true := by kernel_rfl
theorem edgeLaw : Keyed Tryz.prog 80 := Keyed.of_law (deep_law_laid laidOut (m := 2) (by omega) edgeRow' edgeDeep (by rw [Tryz.underlying80]))
theorem intLaw : Keyed Tryz.prog 3 := int_keyed Tryz.underlying3
theorem succ_of_lt {n k : Nat} (h : k < n) : ∃ m,n = m + 1 := ⟨n - 1,by omega⟩
theorem typesSucc : ∃ m,Tryz.prog.types.size = m + 1 := succ_of_lt edgeRow'
def i64ok (a : Int) : Prop := -9223372036854775808 ≤ a ∧ a < 9223372036854775808
theorem wf_of {a : Int} (h : i64ok a) : (Lit.int .i64 a).wf = true := by unfold i64ok at h; simp [Lit.wf,IntKind.min,IntKind.max,IntKind.bits,IntKind.signed]; omega
theorem of_wf {a : Int} (h : (Lit.int .i64 a).wf = true) : i64ok a := by unfold i64ok; simp [Lit.wf,IntKind.min,IntKind.max,IntKind.bits,IntKind.signed] at h; omega
def kE (a b : Int) : Value := .agg #[.int .i64 a,.int .i64 b]
def vI (a : Int) : Value := .int .i64 a
theorem kE_inj {a b c d : Int} : kE a b = kE c d ↔ a = c ∧ b = d := by simp [kE]
theorem vI_inj {a b : Int} : vI a = vI b ↔ a = b := by simp [vI]
theorem keyE {a b : Int} (ha : i64ok a) (hb : i64ok b) : keyOf Tryz.prog 80 (kE a b) = some (.string (keyBytes [.int .i64 a,.int .i64 b])) :=
 keyOf_pair edgeArr Tryz.underlying3 typesSucc (wf_of ha) (wf_of hb)
theorem keyI {a : Int} (ha : i64ok a) : keyOf Tryz.prog 3 (vI a) = some (.int .i64 a) := keyOf_int_mk Tryz.underlying3 (wf_of ha)
def edgeV (f : Int → Int → Option Int) : Value → Option Value
 | .agg ⟨[.int .i64 a,.int .i64 b]⟩ => (f a b).map vI
 | _ => none
def intV (f : Int → Option Value) : Value → Option Value
 | .int .i64 a => f a
 | _ => none
theorem edgeV_at (f : Int → Int → Option Int) (a b : Int) : edgeV f (kE a b) = (f a b).map vI := rfl
theorem intV_at (f : Int → Option Value) (a : Int) : intV f (vI a) = f a := rfl
theorem edgeV_ne {f : Int → Int → Option Int} {v : Value} (h : edgeV f v ≠ none) : ∃ x : Int × Int,v = kE x.1 x.2 := by
 unfold edgeV at h
 split at h
 ·exact ⟨(_,_),rfl⟩
 ·exact absurd rfl h
theorem intV_ne {f : Int → Option Value} {v : Value} (h : intV f v ≠ none) : ∃ x : Int,v = vI x := by
 unfold intV at h
 split at h
 ·exact ⟨_,rfl⟩
 ·exact absurd rfl h
def upE (f : Int → Int → Option Int) (a b c : Int) : Int → Int → Option Int := fun x y => if x = a ∧ y = b then some c else f x y
def delE (f : Int → Int → Option Int) (a b : Int) : Int → Int → Option Int := fun x y => if x = a ∧ y = b then none else f x y
def upI {α : Type} (f : Int → α) (a : Int) (v : α) : Int → α := fun x => if x = a then v else f x
theorem edgeV_up (f : Int → Int → Option Int) (a b c : Int) : updV (edgeV f) (kE a b) (vI c) = edgeV (upE f a b c) := by
 funext v
 by_cases h : ∃ x : Int × Int,v = kE x.1 x.2
 ·obtain ⟨⟨x,y⟩,rfl⟩ := h
  dsimp only
  rw [edgeV_at]
  unfold upE updV
  simp only [kE_inj]
  split
  ·rfl
  ·exact edgeV_at f x y
 ·have h1 : edgeV (upE f a b c) v = none := by
   apply Classical.byContradiction; intro hh; exact h (edgeV_ne hh)
  have h2 : edgeV f v = none := by
   apply Classical.byContradiction; intro hh; exact h (edgeV_ne hh)
  rw [h1,updV_other _ _ (fun e => h ⟨(a,b),e⟩),h2]
theorem edgeV_del (f : Int → Int → Option Int) (a b : Int) : delV (edgeV f) (kE a b) = edgeV (delE f a b) := by
 funext v
 by_cases h : ∃ x : Int × Int,v = kE x.1 x.2
 ·obtain ⟨⟨x,y⟩,rfl⟩ := h
  dsimp only
  rw [edgeV_at]
  unfold delE delV
  simp only [kE_inj]
  split
  ·rfl
  ·exact edgeV_at f x y
 ·have h1 : edgeV (delE f a b) v = none := by
   apply Classical.byContradiction; intro hh; exact h (edgeV_ne hh)
  have h2 : edgeV f v = none := by
   apply Classical.byContradiction; intro hh; exact h (edgeV_ne hh)
  rw [h1,delV_other _ (fun e => h ⟨(a,b),e⟩),h2]
theorem intV_up (f : Int → Option Value) (a : Int) (u : Value) : updV (intV f) (vI a) u = intV (upI f a (some u)) := by
 funext v
 by_cases h : ∃ x : Int,v = vI x
 ·obtain ⟨x,rfl⟩ := h
  rw [intV_at]
  unfold upI updV
  simp only [vI_inj]
  split
  ·rfl
  ·exact intV_at f x
 ·have h1 : intV (upI f a (some u)) v = none := by
   apply Classical.byContradiction; intro hh; exact h (intV_ne hh)
  have h2 : intV f v = none := by
   apply Classical.byContradiction; intro hh; exact h (intV_ne hh)
  rw [h1,updV_other _ _ (fun e => h ⟨a,e⟩),h2]
structure MeshM where
 P : List Pt
 ap : Int → Int → Option Int
 sp : Int → List Int
 cnt : Int
 fx : Int → Int → Option Int
def cellsP (l : List Pt) : List Value := l.flatMap fun p => [.float .f64 p.1,.float .f64 p.2]
theorem cellsP_len (l : List Pt) : (cellsP l).length = l.length * 2 := by
 induction l with
 | nil => rfl
 | cons p r ih => simp only [cellsP,List.flatMap_cons,List.length_append,List.length_cons,List.length_nil] at *; omega
theorem cellsP_at (l : List Pt) : ∀ i,i < l.length → (cellsP l)[i * 2]? = some (.float .f64 (l.getD i (0,0)).1) ∧ (cellsP l)[i * 2 + 1]? = some (.float .f64 (l.getD i (0,0)).2) := by
 induction l with
 | nil => intro i h; simp at h
 | cons p r ih =>
  intro i h
  cases i with
  | zero => exact ⟨rfl,rfl⟩
  | succ i =>
   have := ih i (by simp at h; omega)
   have e1 : (i + 1) * 2 = i * 2 + 2 := by omega
   rw [e1]
   exact this
structure SpokeRows (w : World) (sv : Int → Option Value) (sp : Int → List Int) (F : Nat → Prop) (avoid : Nat → Prop) : Prop where
 none : ∀ a,sv a = none → sp a = []
 own : ∀ a v,sv a = some v → w.ownsInts 0 3 .i64 v (sp a)
 dis : ∀ a a' v v', a ≠ a' → sv a = some v → sv a' = some v' → v.ownBlock = .none ∨ v.ownBlock ≠ v'.ownBlock
 inF : ∀ a v g,sv a = some v → v.ownBlock = some g → F g ∧ ¬avoid g
structure MeshParts (w : World) (mb ba bs bf n : Nat) (pv : Value) (sv : Int → Option Value) (M : MeshM) (F : Nat → Prop) : Prop where
 c0 : w.cell? ⟨mb,0,none⟩ = some pv
 c1 : w.cell? ⟨mb,1,none⟩ = some (.map (some ba))
 c2 : w.cell? ⟨mb,2,none⟩ = some (.map (some bs))
 c3 : w.cell? ⟨mb,3,none⟩ = some (.int .i64 M.cnt)
 c4 : w.cell? ⟨mb,4,none⟩ = some (.map (some bf))
 fz : ∀ i,w.frozen? ⟨mb,i,none⟩ = false
 pts : w.ownsRow 0 68 2 pv M.P.length (cellsP M.P)
 apm : FMap Tryz.prog w 80 ba n (edgeV M.ap)
 spm : FMap Tryz.prog w 3 bs n (intV sv)
 fxm : FMap Tryz.prog w 80 bf n (edgeV M.fx)
 rows : SpokeRows w sv M.sp F (fun g => g = mb ∨ pv.ownBlock = some g)
 nab : ba ≠ bs
 naf : ba ≠ bf
 nsf : bs ≠ bf
 npm : pv.ownBlock ≠ some mb
 fmb : F mb
 fba : F ba
 fbs : F bs
 fbf : F bf
 fpv : ∀ g,pv.ownBlock = some g → F g
 flt : ∀ g,F g → g < w.heap.size
 spl : ∀ a,(M.sp a).length ≤ n
 cb : -(n : Int) ≤ M.cnt ∧ M.cnt ≤ n
def MeshAt (w : World) (mb n : Nat) (M : MeshM) (F : Nat → Prop) : Prop := ∃ ba bs bf pv sv,MeshParts w mb ba bs bf n pv sv M F
theorem ownsRow_same {w w' : World} {base e size n : Nat} {v : Value} {xs : List Value} (h : w.ownsRow base e size v n xs) (hb : ∀ g,v.ownBlock = some g → w'.heap[g]? = w.heap[g]?) : w'.ownsRow base e size v n xs := by
 refine ⟨h.1,?_⟩
 rcases h.2 with h1 | ⟨g,cap,cur,rfl,h2,h3,h4⟩
 ·exact .inl h1
 ·exact .inr ⟨g,cap,cur,rfl,h2,(hb g rfl).trans h3,h4⟩
theorem SpokeRows.same {w w' : World} {sv : Int → Option Value} {sp : Int → List Int} {F av : Nat → Prop} (h : SpokeRows w sv sp F av) (hb : ∀ g,F g → ¬av g → w'.heap[g]? = w.heap[g]?) : SpokeRows w' sv sp F av :=
 ⟨h.none,fun a v hv => ⟨ownsRow_same (h.own a v hv).1 fun g hg => hb g (h.inF a v g hv hg).1 (h.inF a v g hv hg).2,(h.own a v hv).2⟩,h.dis,h.inF⟩
theorem MeshParts.same {w w' : World} {mb ba bs bf n : Nat} {pv : Value} {sv : Int → Option Value} {M : MeshM} {F : Nat → Prop} (h : MeshParts w mb ba bs bf n pv sv M F) (hsz : w.heap.size ≤ w'.heap.size) (hb : ∀ g,F g → w'.heap[g]? = w.heap[g]?) : MeshParts w' mb ba bs bf n pv sv M F := by
 have hc : ∀ i,w'.cell? ⟨mb,i,none⟩ = w.cell? ⟨mb,i,none⟩ := fun i => World.cell?_of_block (hb mb h.fmb)
 exact ⟨(hc 0).trans h.c0,(hc 1).trans h.c1,(hc 2).trans h.c2,(hc 3).trans h.c3,(hc 4).trans h.c4,fun i => (World.frozen?_of_block (hb mb h.fmb)).trans (h.fz i),
  ownsRow_same h.pts fun g hg => hb g (h.fpv g hg),h.apm.same (hb ba h.fba),h.spm.same (hb bs h.fbs),h.fxm.same (hb bf h.fbf),h.rows.same fun g hg _ => hb g hg,h.nab,h.naf,h.nsf,h.npm,h.fmb,h.fba,h.fbs,h.fbf,h.fpv,fun g hg => Nat.lt_of_lt_of_le (h.flt g hg) hsz,h.spl,h.cb⟩
theorem MeshParts.below {w w' : World} {mb ba bs bf n : Nat} {pv : Value} {sv : Int → Option Value} {M : MeshM} {F : Nat → Prop} (h : MeshParts w mb ba bs bf n pv sv M F) (hb : Below w.heap.size w w') : MeshParts w' mb ba bs bf n pv sv M F :=
 h.same hb.size fun g hg => hb.block g (h.flt g hg)
theorem MeshParts.wider {w : World} {mb ba bs bf n : Nat} {pv : Value} {sv : Int → Option Value} {M : MeshM} {F G : Nat → Prop} (h : MeshParts w mb ba bs bf n pv sv M F) (hFG : ∀ g,F g → G g) (hG : ∀ g,G g → g < w.heap.size) : MeshParts w mb ba bs bf n pv sv M G :=
 { h with rows := ⟨h.rows.none,h.rows.own,h.rows.dis,fun a v g h1 h2 => ⟨hFG g (h.rows.inF a v g h1 h2).1,(h.rows.inF a v g h1 h2).2⟩⟩,fmb := hFG _ h.fmb,fba := hFG _ h.fba,fbs := hFG _ h.fbs,fbf := hFG _ h.fbf,fpv := fun g hg => hFG g (h.fpv g hg),flt := hG }
theorem MeshParts.mono {w : World} {mb ba bs bf n n' : Nat} {pv : Value} {sv : Int → Option Value} {M : MeshM} {F : Nat → Prop} (h : MeshParts w mb ba bs bf n pv sv M F) (hn : n ≤ n') : MeshParts w mb ba bs bf n' pv sv M F :=
 { h with apm := h.apm.mono hn,spm := h.spm.mono hn,fxm := h.fxm.mono hn,spl := fun a => Nat.le_trans (h.spl a) hn,cb := by have := h.cb; omega }
theorem MeshParts.ptcells {w : World} {mb ba bs bf n : Nat} {pv : Value} {sv : Int → Option Value} {M : MeshM} {F : Nat → Prop} (h : MeshParts w mb ba bs bf n pv sv M F) :
  ∃ ad cap,pv = .slice ad M.P.length cap ∧ PCells w ad M.P := by
 rcases h.pts.2 with ⟨h1,h2⟩ | ⟨g,cap,cur,h1,h2,h3,h4,h5,h6,h7⟩
 ·exact ⟨none,0,by rw [h2]; exact h1,fun hl => absurd h2 (by omega)⟩
 ·refine ⟨some ⟨g,0,none⟩,cap,h1,fun _ => ⟨g,0,rfl,(Array.getElem?_eq_some_iff.1 h3).1,fun i hi => ?_⟩⟩
  have hp := h.pts
  rw [h1] at hp
  have := cellsP_at M.P i hi
  refine ⟨?_,?_⟩
  ·rw [hp.cellAt _ (by omega)]; simpa using this.1
  ·rw [hp.cellAt _ (by omega)]; simpa using this.2
structure Stay (G : Nat → Prop) (w w' : World) : Prop where
 os : w'.os = w.os
 tape : w'.tape = w.tape
 output : w'.output = w.output
 size : w.heap.size ≤ w'.heap.size
 block : ∀ i,i < w.heap.size → ¬G i → w'.heap[i]? = w.heap[i]?
theorem Stay.refl (G : Nat → Prop) (w : World) : Stay G w w := ⟨rfl,rfl,rfl,Nat.le_refl _,fun _ _ _ => rfl⟩
theorem Stay.of_below {G : Nat → Prop} {w w' : World} (h : Below w.heap.size w w') : Stay G w w' := ⟨h.os,h.tape,h.output,h.size,fun i hi _ => h.block i hi⟩
theorem Stay.of_grown {G : Nat → Prop} {w w' : World} {row : Option Nat} (h : w.grownBy w' row) (hr : ∀ j,row = some j → G j) : Stay G w w' :=
 ⟨h.os,h.tape,h.output,h.size,fun i hi hG => h.block i hi (fun e => hG (hr i e.symm))⟩
theorem Stay.trans {G : Nat → Prop} {a b c : World} (h : Stay G a b) (k : Stay (fun i => G i ∨ a.heap.size ≤ i) b c) : Stay G a c :=
 ⟨k.os.trans h.os,k.tape.trans h.tape,k.output.trans h.output,Nat.le_trans h.size k.size,fun i hi hG => (k.block i (Nat.lt_of_lt_of_le hi h.size) (fun e => e.elim hG (fun e => by omega))).trans (h.block i hi hG)⟩
theorem Stay.mono {G G' : Nat → Prop} {w w' : World} (h : Stay G w w') (hg : ∀ i,G i → G' i) : Stay G' w w' := ⟨h.os,h.tape,h.output,h.size,fun i hi hG => h.block i hi (fun e => hG (hg i e))⟩
theorem zeroInt (w : World) : (zeroValue 3).run Tryz.prog w = .ok (.int .i64 0) w := by kernel_rfl
theorem len_walk {w : World} {mb n : Nat} {M : MeshM} {F : Nat → Prop} (h : MeshAt w mb n M F) :
  Calls Tryz.prog 65 #[.pointer (some ⟨mb,0,none⟩)] w fun r w' => r = .returned (.int .i64 M.P.length) ∧ w' = w := by
 obtain ⟨ba,bs,bf,pv,sv,h⟩ := h
 obtain ⟨ad,cap,rfl,_⟩ := h.ptcells
 have c0 := h.c0
 clear h
 go_enter Tryz.func65,Tryz.ntmps65
 go_wp2
 go_ret
 exact ⟨rfl,rfl⟩
def hasM (M : MeshM) (i : Int) : Bool := decide (0 ≤ i) && decide (i < M.P.length)
theorem has_walk {w : World} {mb n : Nat} {M : MeshM} {F : Nat → Prop} (h : MeshAt w mb n M F) (i : Int) :
  Calls Tryz.prog 75 #[.pointer (some ⟨mb,0,none⟩),.int .i64 i] w fun r w' => r = .returned (.bool (hasM M i)) ∧ w' = w := by
 have HL := Lib.hid (len_walk h)
 clear h
 unfold hasM
 generalize (M.P.length : Int) = L at *
 by_cases h0 : 0 ≤ i
 ·by_cases h1 : i < L
  all_goals
   go_enter Tryz.func75,Tryz.ntmps75
   go_wp2_with (go_at_call 65; refine HL.out.mono ?_; rintro r w1 ⟨rfl,rfl⟩)
   go_ret
   first | (simp [h0]; done) | (simp [h0]; omega)
 ·go_enter Tryz.func75,Tryz.ntmps75
  go_wp2_with (go_at_call 65; refine HL.out.mono ?_; rintro r w1 ⟨rfl,rfl⟩)
  go_ret
  simp; omega
theorem edgeV_getD (f : Int → Int → Option Int) (a b : Int) : (edgeV f (kE a b)).getD (.int .i64 0) = .int .i64 ((f a b).getD 0) := by rw [edgeV_at]; cases f a b <;> rfl
theorem edgeV_isSome (f : Int → Int → Option Int) (a b : Int) : (edgeV f (kE a b)).isSome = (f a b).isSome := by rw [edgeV_at]; cases f a b <;> rfl
theorem apex_walk {w : World} {mb n : Nat} {M : MeshM} {F : Nat → Prop} (h : MeshAt w mb n M F) {a b : Int} (ha : i64ok a) (hb : i64ok b) :
  Calls Tryz.prog 12 #[.pointer (some ⟨mb,0,none⟩),.int .i64 a,.int .i64 b] w fun r w' => r = .returned (.tuple #[.int .i64 ((M.ap a b).getD 0),.bool (M.ap a b).isSome]) ∧ w' = w := by
 obtain ⟨ba,bs,bf,pv,sv,h⟩ := h
 have c1 := h.c1
 have HF := Lib.hid h.apm
 have HK := Lib.hid (keyE ha hb)
 have HV := Lib.hid (edgeV_getD M.ap a b)
 have HI := Lib.hid (edgeV_isSome M.ap a b)
 clear h ha hb
 go_enter Tryz.func12,Tryz.ntmps12
 go_wp2_with (at_lookup; refine wp_look_ok _ rfl _ _ 76 rfl 80 3 edgeLaw Tryz.underlying76 (.int .i64 0) (zeroInt _) ba n _ rfl HF.out _ rfl _ HK.out _ HV.out _ HI.out ?_)
 go_ret2
 exact ⟨rfl,rfl⟩
def minI (a b : Int) : Int := if a ≤ b then a else b
def maxI (a b : Int) : Int := if a ≤ b then b else a
theorem own_walk (a b : Int) (w : World) :
  Calls Tryz.prog 48 #[.int .i64 a,.int .i64 b] w fun r w' => r = .returned (kE (minI a b) (maxI a b)) ∧ Below w.heap.size w w' := by
 unfold kE minI maxI
 by_cases h : a ≤ b
 all_goals
  go_enter Tryz.func48,Tryz.ntmps48
  go_wp2
  all_goals
   go_returns
   first
    |(refine ⟨?_,(Below.refl _ _).alloc (Nat.le_refl _) _⟩; congr <;> omega)
    |(refine ⟨?_,(Below.refl _ _).alloc (Nat.le_refl _) _⟩; rfl)
    |(exfalso; omega)
theorem turned_walk (a b : Int) (w : World) :
  Calls Tryz.prog 59 #[kE a b] w fun r w' => r = .returned (kE b a) ∧ Below w.heap.size w w' := by
 unfold kE
 go_enter Tryz.func59,Tryz.ntmps59
 go_wp2
 go_returns
 exact ⟨rfl,((Below.refl _ _).alloc (Nat.le_refl _) _).alloc (by simp) _⟩
theorem around_walk (a b c : Int) (w : World) :
  Calls Tryz.prog 77 #[.int .i64 a,.int .i64 b,.int .i64 c] w fun r w' => r = .returned (.agg #[.int .i64 a,.int .i64 b,.int .i64 b,.int .i64 c,.int .i64 c,.int .i64 a]) ∧ Below w.heap.size w w' := by
 go_enter Tryz.func77,Tryz.ntmps77
 go_wp2
 go_returns
 exact ⟨rfl,(Below.refl _ _).alloc (Nat.le_refl _) _⟩
theorem keptOwn {w w1 w2 : World} {mb bf n : Nat} {g : Value → Option Value} (hb : Below w1.heap.size w1 w2)
  (h : w1.cell? ⟨mb,4,none⟩ = some (.map (some bf)) ∧ FMap Tryz.prog w1 80 bf n g ∧ Below w.heap.size w w1) :
  w2.cell? ⟨mb,4,none⟩ = some (.map (some bf)) ∧ FMap Tryz.prog w2 80 bf n g ∧ Below w.heap.size w w2 :=
 ⟨(World.cell?_of_block (hb.block mb (World.block_lt_of_cell? _ _ h.1))).trans h.1,h.2.1.same (hb.block bf h.2.1.lt),h.2.2.trans (hb.mono h.2.2.size)⟩
theorem keptDrew3 {w w1 : World} {mb bf n : Nat} {g : Value → Option Value}
 (h : w1.cell? ⟨mb,4,none⟩ = some (.map (some bf)) ∧ FMap Tryz.prog w1 80 bf n g ∧ Below w.heap.size w w1) :
 w1.drew.cell? ⟨mb,4,none⟩ = some (.map (some bf)) ∧ FMap Tryz.prog w1.drew 80 bf n g ∧ Below w.heap.size w w1.drew := ⟨h.1,h.2.1,h.2.2.drew⟩
theorem i64ok_min {a b : Int} (ha : i64ok a) (hb : i64ok b) : i64ok (minI a b) ∧ i64ok (maxI a b) := by
 unfold minI maxI; split <;> exact ⟨‹_›,‹_›⟩
theorem lookE {w : World} {bm n : Nat} {f : Int → Int → Option Int} (h : FMap Tryz.prog w 80 bm n (edgeV f)) {a b : Int} (ha : i64ok a) (hb : i64ok b) :
  (Instr.lookup 76 (.map (some bm)) (.agg #[.int .i64 a,.int .i64 b]) true).run Tryz.prog w = .ok (.tuple #[.int .i64 ((f a b).getD 0),.bool (f a b).isSome]) w := by
 have := (h.look edgeLaw Tryz.underlying76 (zeroInt w) (keyE ha hb)).2
 rw [edgeV_getD,edgeV_isSome] at this
 exact this
theorem fixed_walk {w : World} {mb n : Nat} {M : MeshM} {F : Nat → Prop} (h : MeshAt w mb n M F) {a b : Int} (ha : i64ok a) (hb : i64ok b) :
  Calls Tryz.prog 15 #[.pointer (some ⟨mb,0,none⟩),.int .i64 a,.int .i64 b] w fun r w' => r = .returned (.tuple #[.int .i64 ((M.fx (minI a b) (maxI a b)).getD 0),.bool (M.fx (minI a b) (maxI a b)).isSome]) ∧ Below w.heap.size w w' := by
 obtain ⟨ba,bs,bf,pv,sv,h⟩ := h
 have hS : w.cell? ⟨mb,4,none⟩ = some (.map (some bf)) ∧ FMap Tryz.prog w 80 bf n (edgeV M.fx) ∧ Below w.heap.size w w := ⟨h.c4,h.fxm,Below.refl _ _⟩
 have HL := Lib.hid (fun w' (hw : FMap Tryz.prog w' 80 bf n (edgeV M.fx)) => lookE hw (i64ok_min ha hb).1 (i64ok_min ha hb).2)
 have HO := Lib.hid (own_walk a b)
 clear h ha hb
 generalize minI a b = u at *
 generalize maxI a b = v at *
 unfold kE at *
 go_enter Tryz.func15,Tryz.ntmps15
 go_wp2
 go_region_held3 (fun w' => w'.cell? ⟨mb,4,none⟩ = some (.map (some bf)) ∧ FMap Tryz.prog w' 80 bf n (edgeV M.fx) ∧ Below w.heap.size w w') (first | assumption | exact keptDrew3 (by assumption) | go_keep)
  (first | (go_at_call 48; refine (HO.out _).mono ?_; rintro r w1 ⟨rfl,hb1⟩; have n1 := keptOwn (w := w) hb1 (by assumption); have l1 := HL.out _ n1.2.1))
 go_wp2
 go_ret2
 exact ⟨rfl,n1.2.2⟩
end Go.Proofs.YtbagikgpgdlkcaaGreatDoor
namespace Go.Proofs.YtbagikgpgdlkcaaGreatDoor
open Go.RowKit Tvf
theorem may_walk (p : Pt) (h64 : pt64 p) (w : World) :
  Calls Tryz.prog 80 #[V p] w fun r w' => r = .returned (.bool (ptOK p)) ∧ Below w.heap.size w w' := by
 obtain ⟨x,y⟩ := p
 have HX := Lib.hid (admit_coordinate x h64.1)
 have HY := Lib.hid (admit_coordinate y h64.2)
 clear h64
 unfold V ptOK
 dsimp only
 cases hx : coordB x
 ·rw [hx] at HX
  go_enter Tryz.func80,Tryz.ntmps80
  go_wp2_with (go_at_call 104; (first | (with_reducible refine (HX.out _).mono ?_) | (with_reducible refine (HY.out _).mono ?_)); rintro r w1 ⟨rfl,rfl⟩)
  go_ret
  exact ⟨rfl,(Below.refl _ _).alloc (Nat.le_refl _) _⟩
 ·rw [hx] at HX
  cases hy : coordB y
  all_goals
   rw [hy] at HY
   go_enter Tryz.func80,Tryz.ntmps80
   go_wp2_with (go_at_call 104; (first | (with_reducible refine (HX.out _).mono ?_) | (with_reducible refine (HY.out _).mono ?_)); rintro r w1 ⟨rfl,rfl⟩)
   go_ret
   exact ⟨rfl,(Below.refl _ _).alloc (Nat.le_refl _) _⟩
theorem notmay_walk (p : Pt) (h64 : pt64 p) (w : World) :
  Calls Tryz.prog 99 #[V p] w fun r w' => r = .returned (.bool (!ptOK p)) ∧ Below w.heap.size w w' := by
 obtain ⟨x,y⟩ := p
 have HM := Lib.hid (may_walk (x,y) h64)
 clear h64
 generalize ptOK (x,y) = ok at *
 unfold V at *
 go_enter Tryz.func99,Tryz.ntmps99
 go_wp2_with (go_at_call 80; refine (HM.out _).mono ?_; rintro r w1 ⟨rfl,hb1⟩)
 go_ret
 exact ⟨rfl,((Below.refl _ _).alloc (Nat.le_refl _) _).trans (hb1.mono (by simp))⟩
theorem indexFunc_walk (l : List Pt) (ad : Option Addr) (cap : Nat) (h64 : ∀ p,p ∈ l → pt64 p) (hlen : l.length ≤ 4294967296) (w : World) (hc : PCells w ad l) :
  Calls Tryz.prog 98 #[.slice ad l.length cap,.func (.func 99) #[] #[]] w fun r w' => ∃ i : Int,r = .returned (.int .i64 i) ∧ Below w.heap.size w w' ∧ decide (i ≥ 0) = !(l.all ptOK) := by
 have HC := Lib.hid hc
 have H64 := Lib.hid h64
 clear hc h64
 go_enter Tryz.func98,Tryz.ntmps98
 go_wp2
 go_loopw [8] (fun i wr => ∃ n : Nat,n ≤ l.length ∧ i = .int .i64 n ∧ Hid ((l.take n).all ptOK = true) ∧ Below w.heap.size w wr) (fun i _ => l.length - (intOf i).toNat)
 case atStart => exact ⟨0,Nat.zero_le _,rfl,by simp [Hid],Below.refl _ _⟩
 case round =>
  obtain ⟨n,hn,rfl,HO,hbw⟩ := hrel
  by_cases hlt : n < l.length
  ·obtain ⟨bb,off,rfl,hbb,hc⟩ := HC.out (by omega)
   have hcx : wr.cell? ⟨bb,off + n * 2,none⟩ = some (.float .f64 (l.getD n (0,0)).1) := (hbw.cell (p := ⟨bb,off + n * 2,none⟩) hbb).trans (hc n hlt).1
   have hcy : wr.cell? ⟨bb,off + n * 2 + 1,none⟩ = some (.float .f64 (l.getD n (0,0)).2) := (hbw.cell (p := ⟨bb,off + n * 2 + 1,none⟩) hbb).trans (hc n hlt).2
   clear hc
   have hm := getD_memP hlt
   have HN := Lib.hid (notmay_walk (l.getD n (0,0)) (H64.out _ hm))
   have HT := Lib.hid (take_snocP l n hlt)
   have HALL : Hid (ptOK (l.getD n (0,0)) = false → l.all ptOK = false) := fun h => by
    rw [List.all_eq_false]; exact ⟨_,hm,by rw [h]; simp⟩
   clear hm
   have HON : Hid (ptOK (l.getD n (0,0)) = true → (l.take (n + 1)).all ptOK = true) := fun h => by
    rw [HT.out,List.all_append,HO.out]; simp only [List.all_cons,List.all_nil,Bool.and_true,Bool.true_and]; exact h
   clear HT
   generalize l.getD n (0,0) = p at *
   generalize ptOK p = ok at *
   obtain ⟨x,y⟩ := p
   unfold V at HN
   dsimp only at hcx hcy
   cases ok
   ·have HF := Lib.hid (HALL.out rfl)
    go_wp2_with (go_at_call 99; refine (HN.out _).mono ?_; rintro r w1 ⟨rfl,hb1⟩)
    go_ret
    refine ⟨n,rfl,hbw.trans (hb1.mono hbw.size),?_⟩
    rw [HF.out]; simp
   ·have HF := Lib.hid (HON.out rfl)
    go_wp2_with (go_at_call 99; refine (HN.out _).mono ?_; rintro r w1 ⟨rfl,hb1⟩)
    go_roundw
    case rel => exact ⟨n + 1,by omega,by rfl,HF,hbw.trans (hb1.mono hbw.size)⟩
    case measure => simp [intOf]; omega
  ·have e : n = l.length := by omega
   subst e
   have HF : Hid (l.all ptOK = true) := by
    have := HO.out
    rw [List.take_length] at this; exact this
   go_wp2
   go_ret
   refine ⟨-1,rfl,hbw,?_⟩
   rw [HF.out]; rfl
def allCode (l : List Pt) : Int := if 1048576 < l.length then 3 else if l.all ptOK then 0 else 10
theorem admitAll_walk (l : List Pt) (ad : Option Addr) (cap : Nat) (h64 : ∀ p,p ∈ l → pt64 p) (w : World) (hc : PCells w ad l) :
  Calls Tryz.prog 73 #[.slice ad l.length cap] w fun r w' => ∃ i : Int,r = .returned (.tuple #[.int .i64 i,.int .i64 (allCode l)]) ∧ Below w.heap.size w w' := by
 have HI := Lib.hid (fun h => indexFunc_walk l ad cap h64 h w hc)
 unfold allCode
 clear h64 hc
 by_cases hl : 1048576 < l.length
 ·rw [if_pos hl]
  go_enter Tryz.func73,Tryz.ntmps73
  go_wp2
  go_ret2
  exact ⟨0,rfl,Below.refl _ _⟩
 ·rw [if_neg hl]
  have HI2 := Lib.hid (HI.out (by omega))
  clear HI
  cases hk : l.all ptOK
  all_goals
   rw [hk] at HI2
   go_enter Tryz.func73,Tryz.ntmps73
   go_wp2_with (go_at_call 98; refine HI2.out.mono ?_; rintro r w1 ⟨i,rfl,hb1,hi⟩; simp only [Bool.not_true,Bool.not_false,decide_eq_true_eq,decide_eq_false_iff_not] at hi)
   go_ret2
   first | exact ⟨⟨_,rfl⟩,hb1⟩ | exact ⟨_,rfl,hb1⟩ | (exfalso; omega)
end Go.Proofs.YtbagikgpgdlkcaaGreatDoor
namespace Go.Proofs.YtbagikgpgdlkcaaGreatDoor
open Go.RowKit Go.Maps Go.WideMaps
theorem infoPt : (Tryz.prog.info? 68).map (fun i => (i.zero,i.size,i.bytes)) = some (some (.agg #[.float .f64 0,.float .f64 0]),2,16) := by kernel_rfl
theorem cellsP_get (l : List Pt) (j : Nat) : (cellsP l)[j]? = if j < l.length * 2 then some (.float .f64 (if j % 2 = 0 then (l.getD (j / 2) (0,0)).1 else (l.getD (j / 2) (0,0)).2)) else none := by
 split
 ·rename_i h
  have := cellsP_at l (j / 2) (by omega)
  split
  ·have e : j = j / 2 * 2 := by omega
   conv => lhs; rw [e]
   exact this.1
  ·have e : j = j / 2 * 2 + 1 := by omega
   conv => lhs; rw [e]
   exact this.2
 ·rename_i h
  rw [List.getElem?_eq_none (by rw [cellsP_len]; omega)]
theorem cellsP_one (l : List Pt) : ∀ u ∈ cellsP l,u.oneCell' = true := by
 intro u hu
 unfold cellsP at hu
 obtain ⟨p,_,hp⟩ := List.mem_flatMap.1 hu
 simp at hp
 rcases hp with rfl | rfl <;> rfl
theorem PCells.cell {w : World} {b off : Nat} {l : List Pt} (h : PCells w (some ⟨b,off,none⟩) l) : ∀ j u,(cellsP l)[j]? = some u → w.cell? ⟨b,off + j,none⟩ = some u := by
 intro j u hu
 rw [cellsP_get] at hu
 split at hu
 ·rename_i hj
  obtain ⟨b', off', e,_,hc⟩ := h (by omega)
  cases e
  have := hc (j / 2) (by omega)
  cases hu
  split
  ·have e : j = j / 2 * 2 := by omega
   conv => lhs; rw [e]
   exact this.1
  ·have e : off + j = off + j / 2 * 2 + 1 := by omega
   conv => lhs; rw [e]
   exact this.2
 ·cases hu
theorem clone_nil (cap : Nat) (w : World) :
  Calls Tryz.prog 74 #[.slice none 0 cap] w fun e w' => e = .returned (.slice none 0 0) ∧ w' = w := by
 have q22 : ∀ (w : World) (a : Option Addr) (n c n' c' : Nat),(binOp .eql 22 (.slice a n c) (.slice none n' c')).run Tryz.prog w = .ok (.bool a.isNone) w := fun w a n c n' c' => Lib.run_eql_slice_nil w _ _ a n c n' c' Tryz.underlying22
 go_enter Tryz.func74,Tryz.ntmps74
 go_wp2
 go_ret
 exact ⟨rfl,rfl⟩
theorem clone_some (l : List Pt) (a : Addr) (cap : Nat) (hl : l.length ≤ 1048576) (w : World) (hc : ∀ j u,(cellsP l)[j]? = some u → w.cell? (a.add j) = some u) :
  Calls Tryz.prog 74 #[.slice (some a) l.length cap] w fun e w' => ∃ v', e = .returned v' ∧ w'.ownsRow w.heap.size 68 2 v' l.length (cellsP l) ∧ Below w.heap.size w w' := by
 obtain ⟨i0,hi,hz0,hz1,hz2⟩ := info_parts infoPt
 have HC := Lib.hid hc
 clear hc
 have h1 := Lib.hid (cellsP_one l)
 have hlen := Lib.hid (cellsP_len l)
 have q22 : ∀ (w : World) (a : Option Addr) (n c n' c' : Nat),(binOp .eql 22 (.slice a n c) (.slice none n' c')).run Tryz.prog w = .ok (.bool a.isNone) w := fun w a n c n' c' => Lib.run_eql_slice_nil w _ _ a n c n' c' Tryz.underlying22
 go_enter Tryz.func74,Tryz.ntmps74
 go_wp2_with (at_builtin; refine wpList_append_own _ rfl _ _ 22 rfl w.heap.size 68 i0 (.agg #[.float .f64 0,.float .f64 0]) 2 16 Tryz.underlying22 hi hz0 hz1 hz2 rfl (by decide) _ _ _ rfl (World.ownsRow_made w #[] 0 (Nat.le_refl _) (Nat.zero_le _) (by simp)) a l.length cap (cellsP l) rfl ?qc1 ?qc2 ?qc3 ?qc4 ?qc5 ?qc6 ?_)
 case qc1 => exact hlen.out
 case qc2 => intro j u hj; exact Lib.cell?_alloc_some _ (HC.out j u hj)
 case qc3 => exact h1.out
 case qc4 => unfold maxLen; omega
 case qc5 => omega
 case qc6 => simp
 intro v' w1 hown hgrow hnil
 go_wp2
 go_ret
 refine ⟨v', rfl,by simpa using hown,((Below.refl _ w).alloc (Nat.le_refl _) _).grown hgrow (by simp) (by intro k hk; simp [Value.ownBlock] at hk; omega)⟩
theorem clone_walk (l : List Pt) (ad : Option Addr) (cap : Nat) (hl : l.length ≤ 1048576) (w : World) (hc : PCells w ad l) :
  Calls Tryz.prog 74 #[.slice ad l.length cap] w fun e w' => ∃ v', e = .returned v' ∧ w'.ownsRow w.heap.size 68 2 v' l.length (cellsP l) ∧ Below w.heap.size w w' := by
 cases ad with
 | none =>
  have h0 : l.length = 0 := by
   apply Classical.byContradiction; intro h
   obtain ⟨_,_,e,_⟩ := hc (by omega)
   cases e
  rw [h0]
  refine (clone_nil cap w).mono ?_
  rintro r w' ⟨rfl,rfl⟩
  have : l = [] := List.length_eq_zero_iff.1 h0
  subst this
  exact ⟨_,rfl,World.ownsRow_nil _ _ _ _,Below.refl _ _⟩
 | some a =>
  refine clone_some l a cap hl w ?_
  intro j u hu
  have hj : 0 < l.length := by
   rw [cellsP_get] at hu
   split at hu
   ·omega
   ·cases hu
  obtain ⟨b,off,e,_⟩ := hc hj
  cases e
  rw [Addr.add_lit]
  exact hc.cell j u hu
theorem ownsRow_shape {w : World} {base e size n : Nat} {v : Value} {xs : List Value} (h : w.ownsRow base e size v n xs) : ∃ ad cap,v = .slice ad n cap := by
 rcases h.2 with ⟨h1,h2⟩ | ⟨g,cap,cur,h1,_⟩
 ·exact ⟨none,0,by rw [h2]; exact h1⟩
 ·exact ⟨_,_,h1⟩
theorem ownsRow_down {w : World} {base base' e size n : Nat} {v : Value} {xs : List Value} (hb : base' ≤ base) (h : w.ownsRow base e size v n xs) : w.ownsRow base' e size v n xs := by
 refine ⟨h.1,?_⟩
 rcases h.2 with h1 | ⟨g,cap,cur,h1,h2,h3⟩
 ·exact .inl h1
 ·exact .inr ⟨g,cap,cur,h1,Nat.le_trans hb h2,h3⟩
def emptyM (l : List Pt) : MeshM := ⟨l,fun _ _ => none,fun _ => [],0,fun _ _ => none⟩
theorem new_bad (l : List Pt) (ad : Option Addr) (cap : Nat) (h64 : ∀ p,p ∈ l → pt64 p) (hk : allCode l ≠ 0) (w : World) (hc : PCells w ad l) :
  Calls Tryz.prog 33 #[.slice ad l.length cap] w fun r w' => r = .returned (.tuple #[.pointer none,.int .i64 (allCode l)]) ∧ Below w.heap.size w w' := by
 have HA := Lib.hid (admitAll_walk l ad cap h64 w hc)
 clear h64 hc
 generalize allCode l = e at *
 go_enter Tryz.func33,Tryz.ntmps33
 go_wp2_with (go_at_call 73; refine HA.out.mono ?_; rintro r w1 ⟨i,rfl,hb1⟩)
 go_ret2
 exact ⟨rfl,hb1⟩
theorem edgeV_none : edgeV (fun _ _ => none) = fun _ => none := by
 funext v
 apply Classical.byContradiction; intro h
 obtain ⟨x,rfl⟩ := edgeV_ne h
 exact h rfl
theorem intV_none : intV (fun _ => none) = fun _ => none := by
 funext v
 apply Classical.byContradiction; intro h
 obtain ⟨x,rfl⟩ := intV_ne h
 exact h rfl
theorem new_parts (l : List Pt) (w w2 : World) (v' : Value) (hs : w.heap.size ≤ w2.heap.size) (h : w2.ownsRow w.heap.size 68 2 v' l.length (cellsP l)) :
  MeshAt ((((w2.alloc (.map #[] 0)).alloc (.map #[] 0)).alloc (.map #[] 0)).alloc (.cells #[v', .map (some w2.heap.size),.map (some (w2.heap.size + 1)),.int .i64 0,.map (some (w2.heap.size + 1 + 1))] 79)) (w2.heap.size + 1 + 1 + 1) 0 (emptyM l) (fun i => w.heap.size ≤ i ∧ i < w2.heap.size + 1 + 1 + 1 + 1) := by
 have e1 : (w2.alloc (.map #[] 0)).heap.size = w2.heap.size + 1 := by simp
 have e2 : ((w2.alloc (.map #[] 0)).alloc (.map #[] 0)).heap.size = w2.heap.size + 1 + 1 := by simp
 have e3 : (((w2.alloc (.map #[] 0)).alloc (.map #[] 0)).alloc (.map #[] 0)).heap.size = w2.heap.size + 1 + 1 + 1 := by simp
 have hcell : ∀ i,((((w2.alloc (.map #[] 0)).alloc (.map #[] 0)).alloc (.map #[] 0)).alloc (.cells #[v', .map (some w2.heap.size),.map (some (w2.heap.size + 1)),.int .i64 0,.map (some (w2.heap.size + 1 + 1))] 79)).cell? ⟨w2.heap.size + 1 + 1 + 1,i,none⟩ = #[v', .map (some w2.heap.size),.map (some (w2.heap.size + 1)),.int .i64 0,.map (some (w2.heap.size + 1 + 1))][i]? := by
  intro i; rw [World.cell?_alloc_at _ _ _ _ e3.symm]
 have hown := ((h.alloc (.map #[] 0)).alloc (.map #[] 0)).alloc (.map #[] 0) |>.alloc (.cells #[v', .map (some w2.heap.size),.map (some (w2.heap.size + 1)),.int .i64 0,.map (some (w2.heap.size + 1 + 1))] 79)
 have hlt := h.lt
 refine ⟨w2.heap.size,w2.heap.size + 1,w2.heap.size + 1 + 1,v', fun _ => none,?_⟩
 refine ⟨hcell 0,hcell 1,hcell 2,hcell 3,hcell 4,?_,⟨hown.1,?_⟩,?_,?_,?_,⟨fun _ _ => rfl,fun _ _ h => (nomatch h),fun _ _ _ _ _ h => (nomatch h),fun _ _ _ h => (nomatch h)⟩,by omega,by omega,by omega,?_,?_,?_,?_,?_,?_,?_,fun _ => Nat.le_refl _,by simp [emptyM]⟩
 ·intro i
  unfold World.frozen?
  have := heap_alloc_new (((w2.alloc (.map #[] 0)).alloc (.map #[] 0)).alloc (.map #[] 0)) (.cells #[v', .map (some w2.heap.size),.map (some (w2.heap.size + 1)),.int .i64 0,.map (some (w2.heap.size + 1 + 1))] 79)
  rw [e3] at this
  rw [this]; simp
 ·rcases hown.2 with h1 | ⟨g,cap,cur,h1,h2,h3⟩
  ·exact .inl h1
  ·exact .inr ⟨g,cap,cur,h1,Nat.zero_le _,h3⟩
 ·rw [show edgeV (emptyM l).ap = fun _ => none from edgeV_none]
  exact (((FMap.made _ _ _).kept (World.grownBy_alloc _ _ none) (by simp)).kept (World.grownBy_alloc _ _ none) (by simp)).kept (World.grownBy_alloc _ _ none) (by simp)
 ·rw [intV_none]
  have := ((FMap.made Tryz.prog (w2.alloc (.map #[] 0)) 3).kept (World.grownBy_alloc _ (.map #[] 0) none) (by simp)).kept (World.grownBy_alloc _ (.cells #[v', .map (some w2.heap.size),.map (some (w2.heap.size + 1)),.int .i64 0,.map (some (w2.heap.size + 1 + 1))] 79) none) (by simp)
  rw [e1] at this; exact this
 ·rw [show edgeV (emptyM l).fx = fun _ => none from edgeV_none]
  have := (FMap.made Tryz.prog ((w2.alloc (.map #[] 0)).alloc (.map #[] 0)) 80).kept (World.grownBy_alloc _ (.cells #[v', .map (some w2.heap.size),.map (some (w2.heap.size + 1)),.int .i64 0,.map (some (w2.heap.size + 1 + 1))] 79) none) (by simp)
  rw [e2] at this; exact this
 ·intro e
  have := (hlt _ e).2; omega
 ·exact ⟨by omega,by omega⟩
 ·exact ⟨by omega,by omega⟩
 ·exact ⟨by omega,by omega⟩
 ·exact ⟨by omega,by omega⟩
 ·exact fun g hg => ⟨(hlt g hg).1,by have := (hlt g hg).2; omega⟩
 ·intro g hg; simp; omega
theorem new_ok (l : List Pt) (ad : Option Addr) (cap : Nat) (h64 : ∀ p,p ∈ l → pt64 p) (hk : allCode l = 0) (hl : l.length ≤ 1048576) (w : World) (hc : PCells w ad l) :
  Calls Tryz.prog 33 #[.slice ad l.length cap] w fun r w' => ∃ mb,r = .returned (.tuple #[.pointer (some ⟨mb,0,none⟩),.int .i64 0]) ∧ MeshAt w' mb 0 (emptyM l) (fun i => w.heap.size ≤ i ∧ i < w'.heap.size) ∧ Below w.heap.size w w' := by
 have HA := Lib.hid (admitAll_walk l ad cap h64 w hc)
 rw [hk] at HA
 have HC := Lib.hid (fun w1 (hb : Below w.heap.size w w1) => clone_walk l ad cap hl w1 (hc.below hb))
 have HP := Lib.hid (new_parts l)
 clear h64 hc hk hl
 have hmm := @run_makeMap Tryz.prog
 go_enter Tryz.func33,Tryz.ntmps33
 go_wp2_with (first
  |(go_at_call 73; refine HA.out.mono ?_; rintro r w1 ⟨i,rfl,hb1⟩)
  |(go_at_call 74; refine (HC.out _ hb1).mono ?_; rintro r w2 ⟨v', rfl,hown2,hb2⟩; obtain ⟨ad2,cap2,rfl⟩ := ownsRow_shape hown2))
 go_ret2
 have s2 : w.heap.size ≤ w2.heap.size := Nat.le_trans hb1.size hb2.size
 refine ⟨_,rfl,?_,?_⟩
 ·have := HP.out w w2 _ s2 (ownsRow_down hb1.size hown2)
  simpa using this
 ·exact ((((hb1.trans (hb2.mono hb1.size)).alloc s2 _).alloc (by simp; omega) _).alloc (by simp; omega) _).alloc (by simp; omega) _
end Go.Proofs.YtbagikgpgdlkcaaGreatDoor
namespace Go.Proofs.YtbagikgpgdlkcaaGreatDoor
open Go.RowKit Tvf
theorem kept8_of {w w1 : World} {a0 a1 b0 b1 c0 c1 : Value} {T : TypeId}
  (hb : Below (((w.alloc (.cells #[a0,a1] T)).alloc (.cells #[b0,b1] T)).alloc (.cells #[c0,c1] T)).heap.size (((w.alloc (.cells #[a0,a1] T)).alloc (.cells #[b0,b1] T)).alloc (.cells #[c0,c1] T)) w1) :
  w1.cell? ⟨w.heap.size,0,none⟩ = some a0 ∧ w1.cell? ⟨w.heap.size,1,none⟩ = some a1 ∧ w1.cell? ⟨w.heap.size + 1,0,none⟩ = some b0 ∧ w1.cell? ⟨w.heap.size + 1,1,none⟩ = some b1 ∧ w1.cell? ⟨w.heap.size + 1 + 1,0,none⟩ = some c0 ∧ w1.cell? ⟨w.heap.size + 1 + 1,1,none⟩ = some c1 ∧ w.heap.size + 3 ≤ w1.heap.size ∧ Below w.heap.size w w1 := by
 have hcs := alloc3_cells w a0 a1 b0 b1 c0 c1 T
 refine kept8 hb ⟨hcs.1,hcs.2.1,hcs.2.2.1,hcs.2.2.2.1,hcs.2.2.2.2.1,hcs.2.2.2.2.2,?_,?_⟩
 ·simp
 ·exact (((Below.refl _ _).alloc (Nat.le_refl _) _).alloc (by simp) _).alloc (by simp <;> omega) _
theorem kept8_alloc {w w1 w2 : World} {a0 a1 b0 b1 c0 c1 : Value} {D : Obj} (hb : Below (w1.alloc D).heap.size (w1.alloc D) w2)
  (h : w1.cell? ⟨w.heap.size,0,none⟩ = some a0 ∧ w1.cell? ⟨w.heap.size,1,none⟩ = some a1 ∧ w1.cell? ⟨w.heap.size + 1,0,none⟩ = some b0 ∧ w1.cell? ⟨w.heap.size + 1,1,none⟩ = some b1 ∧ w1.cell? ⟨w.heap.size + 1 + 1,0,none⟩ = some c0 ∧ w1.cell? ⟨w.heap.size + 1 + 1,1,none⟩ = some c1 ∧ w.heap.size + 3 ≤ w1.heap.size ∧ Below w.heap.size w w1) :
  w2.cell? ⟨w.heap.size,0,none⟩ = some a0 ∧ w2.cell? ⟨w.heap.size,1,none⟩ = some a1 ∧ w2.cell? ⟨w.heap.size + 1,0,none⟩ = some b0 ∧ w2.cell? ⟨w.heap.size + 1,1,none⟩ = some b1 ∧ w2.cell? ⟨w.heap.size + 1 + 1,0,none⟩ = some c0 ∧ w2.cell? ⟨w.heap.size + 1 + 1,1,none⟩ = some c1 ∧ w.heap.size + 3 ≤ w2.heap.size ∧ Below w.heap.size w w2 :=
 kept8 (((Below.refl w1.heap.size w1).alloc (Nat.le_refl _) D).trans (hb.mono (by simp))) h
theorem sign_gen (ax ay bx bY cx cy : Nat) (s e : Int) (ok okm : Bool)
  (hF : ∀ w,Calls Tryz.prog 100 #[V (ax,ay),V (bx,bY),V (cx,cy)] w fun r w' => r = .returned (.tuple #[.int .i64 s,.bool ok]) ∧ Below w.heap.size w w')
  (hM : ∀ w blk,w.heap[blk]? = some (.cells #[.float .f64 ax,.float .f64 ay,.float .f64 bx,.float .f64 bY,.float .f64 cx,.float .f64 cy] 68 (0,0)) →
   Calls Tryz.prog 101 #[.slice (some ⟨blk,0,none⟩) 3 3] w fun r w' => r = .returned (.bool okm) ∧ Below w.heap.size w w')
  (hE : okm = true → ∀ w,Calls Tryz.prog 102 #[V (ax,ay),V (bx,bY),V (cx,cy)] w fun r w' => r = .returned (.int .i64 e) ∧ Below w.heap.size w w') (w : World) :
  Calls Tryz.prog 76 #[V (ax,ay),V (bx,bY),V (cx,cy)] w fun r w' => r = .returned (.int .i64 (if ok then s else if okm then e else 0)) ∧ Below w.heap.size w w' := by
 have HF := Lib.hid hF
 have HM := Lib.hid hM
 have HE := Lib.hid hE
 clear hF hM hE
 unfold V at *
 cases ok <;> cases okm
 all_goals
  go_enter Tryz.func76,Tryz.ntmps76
  go_wp2_with (first
   |(go_at_call 100; refine (HF.out _).mono ?_; rintro r w1 ⟨rfl,hb1⟩; obtain ⟨k1,k2,k3,k4,k5,k6,k7,hbw⟩ := kept8_of hb1; clear hb1)
   |(go_at_call 101; refine (HM.out _ _ (heap_alloc_new _ _)).mono ?_; rintro r w2 ⟨rfl,hb2⟩; obtain ⟨l1,l2,l3,l4,l5,l6,l7,lbw⟩ := kept8_alloc hb2 ⟨k1,k2,k3,k4,k5,k6,k7,hbw⟩; clear hb2)
   |(go_at_call 102; refine (HE.out (by first | trivial | rfl) _).mono ?_; rintro r w3 ⟨rfl,hb3⟩; have fbw := lbw.trans (hb3.mono (by omega)); clear hb3))
  go_ret
  first | exact ⟨rfl,fbw⟩ | exact ⟨rfl,lbw⟩ | exact ⟨rfl,hbw⟩
def signI (a b c : Pt) : Int := if [a,b,c].all ptOK then sgnI (det a b c) else 0
theorem orient_sign (a b c : Pt) (h64 : ∀ p,p ∈ [a,b,c] → pt64 p) (w : World) :
  Calls Tryz.prog 76 #[V a,V b,V c] w fun r w' => r = .returned (.int .i64 (signI a b c)) ∧ Below w.heap.size w w' := by
 obtain ⟨ax,ay⟩ := a
 obtain ⟨bx,bY⟩ := b
 obtain ⟨cx,cy⟩ := c
 unfold signI
 cases hk : [(ax,ay),(bx,bY),(cx,cy)].all ptOK
 ·have := sign_gen ax ay bx bY cx cy 0 0 false false (fast_no ax ay bx bY cx cy h64 hk) (fun w blk hb => may3 (ax,ay) (bx,bY) (cx,cy) h64 false hk w blk hb) (fun h => nomatch h) w
  simpa using this
 ·have ha := h64 (ax,ay) (by simp)
  have hb := h64 (bx,bY) (by simp)
  have hc := h64 (cx,cy) (by simp)
  have hk' := hk
  simp only [List.all_cons,List.all_nil,Bool.and_true,Bool.and_eq_true] at hk'
  obtain ⟨oa,ob,oc⟩ := hk'
  have hF := fast_facts ha hb hc oa ob oc
  have hsg := hF.sgn
  have oa' := oa; have ob' := ob; have oc' := oc
  unfold ptOK at oa' ob' oc'
  simp only [Bool.and_eq_true] at oa' ob' oc'
  have := sign_gen ax ay bx bY cx cy _ (sgnI (det (ax,ay) (bx,bY) (cx,cy))) _ true (fast_yes ax ay bx bY cx cy h64 hk hF) (fun w blk hb => may3 (ax,ay) (bx,bY) (cx,cy) h64 true hk w blk hb)
   (fun _ => exactly_walk ax ay bx bY cx cy oa'.1 oa'.2 ob'.1 ob'.2 oc'.1 oc'.2 ha.1 ha.2 hb.1 hb.2 hc.1 hc.2) w
  refine this.mono ?_
  rintro r w' ⟨rfl,h2⟩
  refine ⟨?_,h2⟩
  cases hq : fastOK (ax,ay) (bx,bY) (cx,cy)
  ·simp
  ·simp [hsg hq]
end Go.Proofs.YtbagikgpgdlkcaaGreatDoor
namespace Go.Proofs.YtbagikgpgdlkcaaGreatDoor
open Go.RowKit Go.Maps Go.WideMaps
theorem make_index {w : World} {mb n : Nat} {M : MeshM} {F : Nat → Prop} (h : MeshAt w mb n M F) (a b c : Int) (hh : (hasM M a && hasM M b && hasM M c) = false) :
  Calls Tryz.prog 34 #[.pointer (some ⟨mb,0,none⟩),.int .i64 a,.int .i64 b,.int .i64 c] w fun r w' => r = .returned (.int .i64 11) ∧ w' = w := by
 have HA := Lib.hid (has_walk h a)
 have HB := Lib.hid (has_walk h b)
 have HC := Lib.hid (has_walk h c)
 clear h
 generalize hasM M a = xa at *
 generalize hasM M b = xb at *
 generalize hasM M c = xc at *
 cases xa <;> cases xb <;> cases xc <;> first | (exfalso; revert hh; decide) | skip
 all_goals
  clear hh
  go_enter Tryz.func34,Tryz.ntmps34
  go_wp2_with (go_at_call 75; (first | (with_reducible refine HA.out.mono ?_) | (with_reducible refine HB.out.mono ?_) | (with_reducible refine HC.out.mono ?_)); rintro r w1 ⟨rfl,rfl⟩)
  go_ret
  exact ⟨rfl,rfl⟩
def signM (M : MeshM) (a b c : Nat) : Int := signI (M.P.getD a (0,0)) (M.P.getD b (0,0)) (M.P.getD c (0,0))
theorem getD_mem' {l : List Pt} {k : Nat} (h : k < l.length) : l.getD k (0,0) ∈ l := getD_memP h
theorem signM_walk (M : MeshM) (h64 : ∀ p,p ∈ M.P → pt64 p) {a b c : Nat} (ha : a < M.P.length) (hb : b < M.P.length) (hc : c < M.P.length) (w : World) :
  Calls Tryz.prog 76 #[.agg #[.float .f64 (M.P.getD a (0,0)).1,.float .f64 (M.P.getD a (0,0)).2],.agg #[.float .f64 (M.P.getD b (0,0)).1,.float .f64 (M.P.getD b (0,0)).2],.agg #[.float .f64 (M.P.getD c (0,0)).1,.float .f64 (M.P.getD c (0,0)).2]] w
   fun r w' => r = .returned (.int .i64 (signM M a b c)) ∧ Below w.heap.size w w' :=
 orient_sign _ _ _ (by
  intro p hp
  simp only [List.mem_cons,List.not_mem_nil,or_false] at hp
  rcases hp with rfl | rfl | rfl
  ·exact h64 _ (getD_mem' ha)
  ·exact h64 _ (getD_mem' hb)
  ·exact h64 _ (getD_mem' hc)) w
theorem hasM_nat {M : MeshM} {a : Nat} (h : a < M.P.length) : hasM M a = true := by unfold hasM; simp; omega
theorem make_sign {w : World} {mb n : Nat} {M : MeshM} {F : Nat → Prop} (h : MeshAt w mb n M F) (h64 : ∀ p,p ∈ M.P → pt64 p) (hl : M.P.length ≤ 1048576) {a b c : Nat} (ha : a < M.P.length) (hb : b < M.P.length) (hc : c < M.P.length) (hs : signM M a b c ≤ 0) :
  Calls Tryz.prog 34 #[.pointer (some ⟨mb,0,none⟩),.int .i64 a,.int .i64 b,.int .i64 c] w fun r w' => r = .returned (.int .i64 14) ∧ Below w.heap.size w w' := by
 have HA := Lib.hid (has_walk h a)
 have HB := Lib.hid (has_walk h b)
 have HC := Lib.hid (has_walk h c)
 rw [hasM_nat ha] at HA
 rw [hasM_nat hb] at HB
 rw [hasM_nat hc] at HC
 obtain ⟨ba,bs,bf,pv,sv,h⟩ := h
 obtain ⟨ad,cap,rfl,hpc⟩ := h.ptcells
 obtain ⟨bp,off,rfl,_,hpc⟩ := hpc (by omega)
 have c0 := h.c0
 obtain ⟨ax,ay⟩ := hpc a ha
 obtain ⟨bx,bY⟩ := hpc b hb
 obtain ⟨cx,cy⟩ := hpc c hc
 have HS := Lib.hid (signM_walk M h64 ha hb hc)
 have HSS := Lib.hid hs
 clear h hpc h64 hs
 generalize M.P.getD a (0,0) = pa at *
 generalize M.P.getD b (0,0) = pb at *
 generalize M.P.getD c (0,0) = pc at *
 generalize signM M a b c = s at *
 generalize M.P.length = L at *
 go_enter Tryz.func34,Tryz.ntmps34
 go_wp2_with (go_at_call 75; (first | (with_reducible refine HA.out.mono ?_) | (with_reducible refine HB.out.mono ?_) | (with_reducible refine HC.out.mono ?_)); rintro r w1 ⟨rfl,rfl⟩)
 go_still_tail 21,(by kernel_rfl)
 go_wp2_with (go_at_call 76; refine (HS.out _).mono ?_; rintro r w2 ⟨rfl,hb2⟩)
 all_goals first | (exfalso; have := HSS.out; omega) | skip
 go_ret
 exact ⟨rfl,(Below.refl _ w1).drew.trans hb2⟩
end Go.Proofs.YtbagikgpgdlkcaaGreatDoor
