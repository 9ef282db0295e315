/- Part of the proof. No conditions. -/
import Derived.Test.YtbagikgpgdlkcaaGreatDoorZR
set_option linter.all false
set_option maxHeartbeats 8000000
set_option maxRecDepth 100000
namespace Go.Proofs.YtbagikgpgdlkcaaGreatDoor
open Go.RowKit Tvf Go.Maps Go.WideMaps
structure LV (B : Nat) (w : World) (F : Nat → Prop) (g c : Nat) (v7 : Value) (A S : List (Int × Int)) : Prop where
 rd : ∀ j u,(cellsK encP A)[j]? = some u → w.cell? ⟨g,j,none⟩ = some u
 lt : g < w.heap.size
 cap : c = A.length ∨ w.ownsRow B 42 2 (.slice (some ⟨g,0,none⟩) A.length c) A.length (cellsK encP A)
 s : w.ownsRow B 42 2 v7 S.length (cellsK encP S)
 offl : ¬F g
 offs : ∀ b,v7.ownBlock = some b → ¬F b
 ne : v7.ownBlock ≠ some g
 flt : ∀ i,F i → i < w.heap.size
 base : B ≤ w.heap.size
section
variable {B : Nat} {w w' : World} {F : Nat → Prop} {g c : Nat} {v7 : Value} {A S : List (Int × Int)}
theorem LV.same (h : LV B w F g c v7 A S) (hs : w.heap.size ≤ w'.heap.size) (hg : w'.heap[g]? = w.heap[g]?) (h7 : ∀ b,v7.ownBlock = some b → w'.heap[b]? = w.heap[b]?) : LV B w' F g c v7 A S :=
 ⟨fun j u hu => (World.cell?_of_block hg).trans (h.rd j u hu),Nat.lt_of_lt_of_le h.lt hs,h.cap.imp id (fun ho => ownsRow_same ho fun b hb => by simp [Value.ownBlock] at hb; subst hb; exact hg),ownsRow_same h.s h7,h.offl,h.offs,h.ne,fun i hi => Nat.lt_of_lt_of_le (h.flt i hi) hs,Nat.le_trans h.base hs⟩
theorem LV.below (h : LV B w F g c v7 A S) (hb : Below w.heap.size w w') : LV B w' F g c v7 A S :=
 h.same hb.size (hb.block g h.lt) (fun b hb' => hb.block b (h.s.lt b hb').2)
theorem LV.turn (h : LV B w F g c v7 A S) {G : Nat → Prop} (hs : Stay F w w') (hG : ∀ i,G i → F i ∨ w.heap.size ≤ i) (hlt : ∀ i,G i → i < w'.heap.size) : LV B w' G g c v7 A S := by
 have h1 := h.same hs.size (hs.block g h.lt h.offl) (fun b hb' => hs.block b (h.s.lt b hb').2 (h.offs b hb'))
 exact ⟨h1.rd,h1.lt,h1.cap,h1.s,fun e => (hG g e).elim h.offl (fun e => by have := h.lt; omega),fun b hb e => (hG b e).elim (h.offs b hb) (fun e => by have := (h.s.lt b hb).2; omega),h.ne,hlt,h1.base⟩
theorem LV.push_l {f : Int × Int} {a : Addr} {k : Nat} (h : LV B w F g c v7 A S) (hx : ∀ j u,(encP f)[j]? = some u → w.cell? (a.add j) = some u) (hl : A.length ≤ 1000000000) (ty : TypeId) :
  ∃ g' c' w', (Builtin.append_ #[38,38] ty #[.slice (some ⟨g,0,none⟩) A.length c,.slice (some a) 1 k]).run Tryz.prog w = .ok (.slice (some ⟨g', 0,none⟩) (A.length + 1) c') w' ∧ LV B w' F g' c' v7 (A ++ [f]) S ∧ w.grownBy w' (some g) ∧ Below B w w' ∧ ∀ i,F i → w'.heap[i]? = w.heap[i]? := by
 obtain ⟨i0,hi,hz0,hz1,hz2⟩ := info_parts infoPair
 have hlen := cellsP2_len A
 have he : cellsK encP (A ++ [f]) = cellsK encP A ++ encP f := by rw [cellsK_append,cellsK_one]
 have fin : ∀ g' c' w', w'.ownsRow B 42 2 (.slice (some ⟨g', 0,none⟩) (A.length + 1) c') (A.length + 1) (cellsK encP A ++ encP f) → w.grownBy w' (some g) → (g' = g ∨ g' = w.heap.size) → g' < w'.heap.size → LV B w' F g' c' v7 (A ++ [f]) S := by
  intro g' c' w' ho hg hloc hlt
  have h7 : ∀ b,v7.ownBlock = some b → w'.heap[b]? = w.heap[b]? := fun b hb => hg.block b (h.s.lt b hb).2 (by have := h.ne; rw [hb] at this; simpa using this)
  refine ⟨fun j u hu => ?_,hlt,.inr ?_,ownsRow_same h.s h7,?_,h.offs,?_,fun i hi => Nat.lt_of_lt_of_le (h.flt i hi) hg.size,Nat.le_trans h.base hg.size⟩
  ·rw [he] at hu
   have := ho.cells (g := g') rfl j u hu
   rwa [addr_add0] at this
  ·rw [he,List.length_append]; exact ho
  ·rcases hloc with rfl | rfl
   ·exact h.offl
   ·intro e; have := h.flt _ e; omega
  ·rcases hloc with rfl | rfl
   ·exact h.ne
   ·intro e; have := (h.s.lt _ e).2; omega
 rcases h.cap with hc | ho
 ·obtain ⟨v', w', hrun,ho,hg⟩ := run_append_arg_grows (P := Tryz.prog) w 38 ty 42 i0 (.agg #[.int .i64 0,.int .i64 0]) 2 16 Tryz.underlying38 hi hz0 hz1 hz2 rfl (by decide) ⟨g,0,none⟩ A.length c (cellsK encP A) hlen (fun j u hu => by rw [addr_add0]; exact h.rd j u hu) a 1 k (encP f) rfl hx (by omega) (by unfold maxLen; omega) (by omega)
  have hof : ∃ g' c', v' = .slice (some ⟨g', 0,none⟩) (A.length + 1) c' ∧ w.heap.size ≤ g' ∧ g' < w'.heap.size := by
   have hlt := ho.lt
   rcases ho.2 with ⟨_,h0⟩ | ⟨g', c', cur,rfl,_⟩
   ·omega
   ·exact ⟨g', c', rfl,hlt g' rfl⟩
  obtain ⟨g', c', rfl,h1,h2⟩ := hof
  have hsz : g' = w.heap.size ∨ w.heap.size < g' := by omega
  have hg' : w.grownBy w' (some g) := ⟨hg.os,hg.tape,hg.output,hg.size,fun i hi _ => hg.block i hi (by simp)⟩
  have ho' := ownsRow_down h.base ho
  refine ⟨g', c', w', hrun,?_,hg', ⟨hg.os,hg.tape,hg.output,hg.size,fun i hi => hg.block i (Nat.lt_of_lt_of_le hi h.base) (by simp)⟩,fun i hi => hg.block i (h.flt i hi) (by simp)⟩
  have h7 : ∀ b,v7.ownBlock = some b → w'.heap[b]? = w.heap[b]? := fun b hb => hg.block b (h.s.lt b hb).2 (by simp)
  refine ⟨fun j u hu => ?_,h2,.inr ?_,ownsRow_same h.s h7,?_,h.offs,?_,fun i hi => Nat.lt_of_lt_of_le (h.flt i hi) hg.size,Nat.le_trans h.base hg.size⟩
  ·rw [he] at hu
   have := ho'.cells (g := g') rfl j u hu
   rwa [addr_add0] at this
  ·rw [he,List.length_append]; exact ho'
  ·intro e; have := h.flt _ e; omega
  ·intro e; have := (h.s.lt _ e).2; omega
 ·obtain ⟨g', c', w', hrun,ho', hg,hloc,hlt⟩ := run_append_lies (P := Tryz.prog) w 38 ty B 42 i0 (.agg #[.int .i64 0,.int .i64 0]) 2 16 Tryz.underlying38 hi hz0 hz1 hz2 rfl (by decide) (.slice (some ⟨g,0,none⟩) A.length c) A.length (cellsK encP A) ho a 1 k (encP f) rfl hx (encP_one f) (by decide) (by unfold maxLen; omega) (by omega) h.base w.heap.size rfl
  have hBg := (ho.lt g rfl).1
  refine ⟨g', c', w', hrun,fin g' c' w' ho' hg (hloc.imp (fun e => by simp [Value.ownBlock] at e; exact e.symm) id) hlt,hg,⟨hg.os,hg.tape,hg.output,hg.size,fun i hi => hg.block i (Nat.lt_of_lt_of_le hi h.base) (by simp [Value.ownBlock]; omega)⟩,fun i hi => hg.block i (h.flt i hi) (fun e => by simp [Value.ownBlock] at e; subst e; exact h.offl hi)⟩
theorem LV.push_s {f : Int × Int} {a : Addr} {k : Nat} (h : LV B w F g c v7 A S) (hx : ∀ j u,(encP f)[j]? = some u → w.cell? (a.add j) = some u) (hl : S.length ≤ 1000000000) (ty : TypeId) :
  ∃ g' c' w', (Builtin.append_ #[38,38] ty #[v7,.slice (some a) 1 k]).run Tryz.prog w = .ok (.slice (some ⟨g', 0,none⟩) (S.length + 1) c') w' ∧ LV B w' F g c (.slice (some ⟨g', 0,none⟩) (S.length + 1) c') A (S ++ [f]) ∧ w.grownBy w' v7.ownBlock ∧ Below B w w' ∧ ∀ i,F i → w'.heap[i]? = w.heap[i]? := by
 obtain ⟨i0,hi,hz0,hz1,hz2⟩ := info_parts infoPair
 have he : cellsK encP (S ++ [f]) = cellsK encP S ++ encP f := by rw [cellsK_append,cellsK_one]
 obtain ⟨g', c', w', hrun,ho', hg,hloc,hlt⟩ := run_append_lies (P := Tryz.prog) w 38 ty B 42 i0 (.agg #[.int .i64 0,.int .i64 0]) 2 16 Tryz.underlying38 hi hz0 hz1 hz2 rfl (by decide) v7 S.length (cellsK encP S) h.s a 1 k (encP f) rfl hx (encP_one f) (by decide) (by unfold maxLen; omega) (by omega) h.base w.heap.size rfl
 have hgg : w'.heap[g]? = w.heap[g]? := hg.block g h.lt (fun e => h.ne e.symm)
 refine ⟨g', c', w', hrun,⟨fun j u hu => (World.cell?_of_block hgg).trans (h.rd j u hu),Nat.lt_of_lt_of_le h.lt hg.size,h.cap.imp id (fun ho => ownsRow_same ho fun b hb => by simp [Value.ownBlock] at hb; subst hb; exact hgg),?_,h.offl,?_,?_,fun i hi => Nat.lt_of_lt_of_le (h.flt i hi) hg.size,Nat.le_trans h.base hg.size⟩,hg,⟨hg.os,hg.tape,hg.output,hg.size,fun i hi => hg.block i (Nat.lt_of_lt_of_le hi h.base) (fun e => by have := (h.s.lt i e.symm).1; omega)⟩,fun i hi => hg.block i (h.flt i hi) (fun e => h.offs i e.symm hi)⟩
 ·rw [he,List.length_append]; exact ho'
 ·intro b hb
  simp [Value.ownBlock] at hb
  subst hb
  rcases hloc with e | rfl
  ·exact h.offs _ e
  ·intro e; have := h.flt _ e; omega
 ·simp only [Value.ownBlock]
  intro e
  simp at e
  subst e
  rcases hloc with e | e
  ·exact h.ne e
  ·have := h.lt; omega
end
theorem step_run_append {P : Program} {w : World} {ops : Array Oper} {o : Oper} {a : Act} {K : Act → World → Prop} {Q : Exit → Act → World → Prop} {E : Prop} (hgd : o.guard = none) (s x : Operand) (t : TypeId)
  (hop : o.op = Op.call { callee := Callee.builtin Builtin.append,args := #[s,x],argTypes := #[t,t] }) (v y : Value) (hs : a.eval s = v) (hx : a.eval x = y) (v' : Value) (w' : World) (hrun : (Builtin.append_ #[t,t] o.type #[v,y]).run P w = .ok v' w')
  (hK : K (a.put o.dst v') w') : if Region.wanted o (yielded ops a.tmps) = true then Oper.wp P o a w K Q else E := by
 have hw : Region.wanted o (yielded ops a.tmps) = true := by simp [Region.wanted,hgd]
 rw [if_pos hw]
 unfold Oper.wp
 simp [execOp,hop,resolve,invoke,builtin,hs,hx,hrun,Result.andThen]
 exact hK
end Go.Proofs.YtbagikgpgdlkcaaGreatDoor
namespace Go.Proofs.YtbagikgpgdlkcaaGreatDoor
open Go.RowKit Tvf Go.Maps Go.WideMaps
structure SS where
 M : MeshM
 L : List (Int × Int)
 S : List (Int × Int)
 n : Nat
def four (M : MeshM) (a b : Int) : List (Int × Int) := [(a,apD M b a),(apD M b a,b),(b,apD M a b),(apD M a b,a)]
def SS.e (s : SS) : Int × Int := s.L.getD (s.L.length - 1) (0,0)
def sStep (D : MeshM → Int → Int → Bool) (s : SS) : SS :=
 if shB s.M s.e.1 s.e.2 && !D s.M s.e.1 s.e.2 then ⟨turnR s.M s.e.1 s.e.2,s.L.take (s.L.length - 1) ++ four s.M s.e.1 s.e.2,s.S ++ four s.M s.e.1 s.e.2,s.n + 1⟩ else ⟨s.M,s.L.take (s.L.length - 1),s.S,s.n⟩
def sRun (D : MeshM → Int → Int → Bool) (s : SS) : Nat → SS
 | 0 => s
 | k + 1 => sStep D (sRun D s k)
def NB (W : World) (lo : Nat) (f : Int × Int) (nb : Nat) : Prop := (∀ j u,(encP f)[j]? = some u → W.cell? ((⟨nb,0,none⟩ : Addr).add j) = some u) ∧ lo ≤ nb ∧ nb < W.heap.size
theorem NB.new (W : World) {lo : Nat} (f : Int × Int) (t : TypeId) (h : lo ≤ W.heap.size) : NB (W.alloc (.cells #[.int .i64 f.1,.int .i64 f.2] t)) lo f W.heap.size :=
 ⟨cells_new W (encP f) t,h,by simp⟩
theorem NB.al {W : World} {lo : Nat} {f : Int × Int} {nb : Nat} (h : NB W lo f nb) (o : Obj) : NB (W.alloc o) lo f nb :=
 ⟨fun j u hu => cell_al (h.1 j u hu) o,h.2.1,Nat.lt_of_lt_of_le h.2.2 (by simp)⟩
theorem NB.grown {W W' : World} {lo : Nat} {f : Int × Int} {nb : Nat} {row : Option Nat} (h : NB W lo f nb) (hg : W.grownBy W' row) (hr : ∀ g,row = some g → g < lo) : NB W' lo f nb :=
 ⟨fun j u hu => by
  rw [addr_add0]
  have := h.1 j u hu
  rw [addr_add0] at this
  exact (World.cell?_of_block (hg.block nb h.2.2 (fun e => by have := hr nb e.symm; have := h.2.1; omega))).trans this,h.2.1,Nat.lt_of_lt_of_le h.2.2 hg.size⟩
theorem LV.al {B : Nat} {w : World} {F : Nat → Prop} {g c : Nat} {v7 : Value} {A S : List (Int × Int)} (h : LV B w F g c v7 A S) (o : Obj) : LV B (w.alloc o) F g c v7 A S := h.below ((Below.refl _ _).alloc (Nat.le_refl _) o)
theorem LV.drew {B : Nat} {w : World} {F : Nat → Prop} {g c : Nat} {v7 : Value} {A S : List (Int × Int)} (h : LV B w F g c v7 A S) : LV B w.drew F g c v7 A S := h.below (Below.refl _ _).drew
def PushL (B lo : Nat) (W : World) (F : Nat → Prop) (v7 : Value) (A S : List (Int × Int)) (f : Int × Int) (v y : Value) (ty : TypeId) : Prop :=
 ∃ g' c' w', (Builtin.append_ #[38,38] ty #[v,y]).run Tryz.prog W = .ok (.slice (some ⟨g', 0,none⟩) (A.length + 1) c') w' ∧ Hid (LV B w' F g' c' v7 (A ++ [f]) S) ∧ Hid (Below B W w' ∧ ∀ i,F i → w'.heap[i]? = W.heap[i]?) ∧ Hid (∀ nb,NB W lo f nb → NB w' lo f nb) ∧
  (w'.cell? ⟨lo,0,none⟩ = some (.int .i64 f.1) ∧ w'.cell? ⟨lo,1,none⟩ = some (.int .i64 f.2)) ∧ Hid (lo < w'.heap.size)
def PushS (B lo : Nat) (W : World) (F : Nat → Prop) (g c : Nat) (A S : List (Int × Int)) (f : Int × Int) (v y : Value) (ty : TypeId) : Prop :=
 ∃ g' c' w', (Builtin.append_ #[38,38] ty #[v,y]).run Tryz.prog W = .ok (.slice (some ⟨g', 0,none⟩) (S.length + 1) c') w' ∧ Hid (LV B w' F g c (.slice (some ⟨g', 0,none⟩) (S.length + 1) c') A (S ++ [f])) ∧ Hid (Below B W w' ∧ ∀ i,F i → w'.heap[i]? = W.heap[i]?) ∧ Hid (∀ nb,NB W lo f nb → NB w' lo f nb) ∧
  (w'.cell? ⟨lo,0,none⟩ = some (.int .i64 f.1) ∧ w'.cell? ⟨lo,1,none⟩ = some (.int .i64 f.2)) ∧ Hid (lo < w'.heap.size)
section
variable {B lo : Nat} {W : World} {F : Nat → Prop} {g c : Nat} {v7 : Value} {A S : List (Int × Int)} {f : Int × Int} {nb : Nat}
theorem push_l_at (h : LV B W F g c v7 A S) (hn : NB W lo f nb) (hg : g < lo) (hl : A.length ≤ 1000000000) (hp : W.cell? ⟨lo,0,none⟩ = some (.int .i64 f.1) ∧ W.cell? ⟨lo,1,none⟩ = some (.int .i64 f.2)) (ty : TypeId) :
  PushL B lo W F v7 A S f (.slice (some ⟨g,0,none⟩) A.length c) (.slice (some ⟨nb,0,none⟩) 1 1) ty := by
 obtain ⟨g', c', w', hr,h1,h2,h3,h4⟩ := h.push_l (k := 1) hn.1 hl ty
 have hlo := World.block_lt_of_cell? _ _ hp.1
 have hk : ∀ i v,W.cell? ⟨lo,i,none⟩ = some v → w'.cell? ⟨lo,i,none⟩ = some v := fun i v hv => (World.cell?_of_block (h2.block lo hlo (by simp; omega))).trans hv
 exact ⟨g', c', w', hr,h1,⟨h3,h4⟩,fun nb' hb' => hb'.grown h2 (fun i hi => by cases hi; exact hg),⟨hk 0 _ hp.1,hk 1 _ hp.2⟩,Nat.lt_of_lt_of_le hlo h2.size⟩
theorem push_s_at (h : LV B W F g c v7 A S) (hn : NB W lo f nb) (h7 : ∀ b,v7.ownBlock = some b → b < lo) (hl : S.length ≤ 1000000000) (hp : W.cell? ⟨lo,0,none⟩ = some (.int .i64 f.1) ∧ W.cell? ⟨lo,1,none⟩ = some (.int .i64 f.2)) (ty : TypeId) :
  PushS B lo W F g c A S f v7 (.slice (some ⟨nb,0,none⟩) 1 1) ty := by
 obtain ⟨g', c', w', hr,h1,h2,h3,h4⟩ := h.push_s (k := 1) hn.1 hl ty
 have hlo := World.block_lt_of_cell? _ _ hp.1
 have hk : ∀ i v,W.cell? ⟨lo,i,none⟩ = some v → w'.cell? ⟨lo,i,none⟩ = some v := fun i v hv => (World.cell?_of_block (h2.block lo hlo (fun e => by have := h7 lo e.symm; omega))).trans hv
 exact ⟨g', c', w', hr,h1,⟨h3,h4⟩,fun nb' hb' => hb'.grown h2 (fun i hi => h7 i hi),⟨hk 0 _ hp.1,hk 1 _ hp.2⟩,Nat.lt_of_lt_of_le hlo h2.size⟩
end
structure LH (B : Nat) (w : World) (F : Nat → Prop) (ad : Option Addr) (v7 : Value) (A S : List (Int × Int)) : Prop where
 rd : KCells encP w ad A
 s : w.ownsRow B 42 2 v7 S.length (cellsK encP S)
 offl : ∀ g,ad = some g → ¬F g.block
 offs : ∀ b,v7.ownBlock = some b → ¬F b
 ne : ∀ g,ad = some g → v7.ownBlock ≠ some g.block
 flt : ∀ i,F i → i < w.heap.size
 base : B ≤ w.heap.size
theorem LH.pop {B : Nat} {w : World} {F : Nat → Prop} {g : Nat} {v7 : Value} {A S : List (Int × Int)} (h : LH B w F (some ⟨g,0,none⟩) v7 A S) (h0 : 0 < A.length) : LV B w F g (A.length - 1) v7 (A.take (A.length - 1)) S := by
 obtain ⟨g', e,hg,hc⟩ := h.rd h0
 cases e
 refine ⟨fun j u hu => hc j u ?_,hg,.inl (by rw [List.length_take]; omega),h.s,h.offl _ rfl,h.offs,h.ne _ rfl,h.flt,h.base⟩
 have e : A = A.take (A.length - 1) ++ A.drop (A.length - 1) := (List.take_append_drop _ _).symm
 rw [e,cellsK_append]
 rw [List.getElem?_append_left (List.getElem?_eq_some_iff.1 hu).1]
 exact hu
theorem LV.head {B : Nat} {w : World} {F : Nat → Prop} {g c : Nat} {v7 : Value} {A S : List (Int × Int)} (h : LV B w F g c v7 A S) : LH B w F (some ⟨g,0,none⟩) v7 A S :=
 ⟨fun _ => ⟨g,rfl,h.lt,h.rd⟩,h.s,fun _ e => by cases e; exact h.offl,h.offs,fun _ e => by cases e; exact h.ne,h.flt,h.base⟩
theorem LV.room {B : Nat} {w : World} {F : Nat → Prop} {g c : Nat} {v7 : Value} {A S : List (Int × Int)} (h : LV B w F g c v7 A S) : A.length ≤ c := by
 rcases h.cap with rfl | ho
 ·exact Nat.le_refl _
 ·rcases ho.2 with ⟨e,_⟩ | ⟨g', c', cur,e,_,_,hle,_⟩
  ·cases e
  ·cases e; exact hle
theorem MB.lists {w0 W W' : World} {B mb n : Nat} {M : MeshM} {F : Nat → Prop} (h : MB w0 W mb n M F) (hB : w0.heap.size ≤ B) (hb : Below B W W') (hf : ∀ i,F i → W'.heap[i]? = W.heap[i]?) : MB w0 W' mb n M F :=
 ⟨h.at_.same hb.size hf,h.new,h.keep.trans (hb.mono hB)⟩
end Go.Proofs.YtbagikgpgdlkcaaGreatDoor
