/- Part of the proof. No conditions. -/
import Derived.Test.YtbagikgpgdlkcaaGreatDoorZK
set_option linter.all false
set_option maxHeartbeats 8000000
set_option maxRecDepth 100000
namespace Go.Proofs.YtbagikgpgdlkcaaGreatDoor
open Go.RowKit Tvf Go.Maps Go.WideMaps
abbrev Seg3 := Int × Int × Int
def encS (s : Seg3) : List Value := [.int .i64 s.1,.int .i64 s.2.1,.int .i64 s.2.2]
theorem encS_one (s : Seg3) : ∀ u ∈ encS s,u.oneCell' = true := by
 intro u hu
 simp only [encS,List.mem_cons,List.not_mem_nil,or_false] at hu
 rcases hu with rfl | rfl | rfl <;> rfl
def apT (t : Tri3) (a b : Int) : Option Int := if t.1 = a ∧ t.2.1 = b then some t.2.2 else if t.2.1 = a ∧ t.2.2 = b then some t.1 else if t.2.2 = a ∧ t.1 = b then some t.2.1 else none
def apR (T : List Tri3) (a b : Int) : Option Int := T.findSome? fun t => apT t a b
def hasP (P : List Pt) (i : Int) : Bool := decide (0 ≤ i) && decide (i < P.length)
def ptP (P : List Pt) (i : Int) : Pt := P.getD i.toNat (0,0)
def mkCode (P : List Pt) (T : List Tri3) (a b c : Int) : Int :=
 if (hasP P a && (hasP P b && hasP P c)) = false then 11 else if signI (ptP P a) (ptP P b) (ptP P c) ≤ 0 then 14 else if ((apR T a b).isSome || ((apR T b c).isSome || (apR T c a).isSome)) = true then 14 else 0
def mkR (P : List Pt) (T : List Tri3) (a b c : Int) : List Tri3 := if mkCode P T a b c = 0 then T ++ [(a,b,c)] else T
theorem PCells.block {w w' : World} {ad : Option Addr} {l : List Pt} (h : PCells w ad l) (hs : w.heap.size ≤ w'.heap.size) (hb : ∀ g,ad = some g → g.block < w.heap.size → w'.heap[g.block]? = w.heap[g.block]?) : PCells w' ad l := by
 intro h0
 obtain ⟨b,off,rfl,hlt,hc⟩ := h h0
 have e := hb _ rfl hlt
 exact ⟨b,off,rfl,Nat.lt_of_lt_of_le hlt hs,fun i hi => ⟨(World.cell?_of_block (a := ⟨b,off + i * 2,none⟩) e).trans (hc i hi).1,(World.cell?_of_block (a := ⟨b,off + i * 2 + 1,none⟩) e).trans (hc i hi).2⟩⟩
def RB (xb : Nat) (ad : Option Addr) (vT vS : Value) (i : Nat) : Prop := i = xb ∨ (∃ g,ad = some g ∧ g.block = i) ∨ vT.ownBlock = some i ∨ vS.ownBlock = some i
structure RMs (w : World) (B xb : Nat) (P : List Pt) (ad : Option Addr) (cap : Nat) (T : List Tri3) (vT : Value) (S : List Seg3) (vS : Value) : Prop where
 box : Box3 47 w xb (.slice ad P.length cap) vT vS
 pts : PCells w ad P
 tri : w.ownsRow B 61 3 vT T.length (cellsK encT T)
 seg : w.ownsRow B 90 3 vS S.length (cellsK encS S)
 px : ∀ g,ad = some g → g.block ≠ xb
 pt : ∀ g,ad = some g → vT.ownBlock ≠ some g.block
 ps : ∀ g,ad = some g → vS.ownBlock ≠ some g.block
 tx : vT.ownBlock ≠ some xb
 sx : vS.ownBlock ≠ some xb
 ts : ∀ b,vT.ownBlock = some b → vS.ownBlock ≠ some b
 bB : B ≤ w.heap.size
 pl : ∀ g,ad = some g → g.block < w.heap.size
section
variable {w w' : World} {B xb : Nat} {P : List Pt} {ad : Option Addr} {cap : Nat} {T : List Tri3} {vT : Value} {S : List Seg3} {vS : Value}
theorem RMs.same (h : RMs w B xb P ad cap T vT S vS) (hs : w.heap.size ≤ w'.heap.size) (hb : ∀ i,RB xb ad vT vS i → i < w.heap.size → w'.heap[i]? = w.heap[i]?) : RMs w' B xb P ad cap T vT S vS :=
 ⟨(hb xb (.inl rfl) h.box.lt).trans h.box,h.pts.block hs (fun g e hl => hb _ (.inr (.inl ⟨g,e,rfl⟩)) hl),ownsRow_same h.tri (fun g e => hb g (.inr (.inr (.inl e))) (h.tri.lt g e).2),ownsRow_same h.seg (fun g e => hb g (.inr (.inr (.inr e))) (h.seg.lt g e).2),h.px,h.pt,h.ps,h.tx,h.sx,h.ts,Nat.le_trans h.bB hs,fun g e => Nat.lt_of_lt_of_le (h.pl g e) hs⟩
theorem RMs.below (h : RMs w B xb P ad cap T vT S vS) (hb : Below w.heap.size w w') : RMs w' B xb P ad cap T vT S vS := h.same hb.size (fun i _ hl => hb.block i hl)
theorem RMs.stay (h : RMs w B xb P ad cap T vT S vS) {F : Nat → Prop} (hs : Stay F w w') (hd : ∀ i,RB xb ad vT vS i → ¬F i) : RMs w' B xb P ad cap T vT S vS := h.same hs.size (fun i hi hl => hs.block i hl (hd i hi))
theorem RMs.cells (h : RMs w B xb P ad cap T vT S vS) : w.cell? ⟨xb,0,none⟩ = some (.slice ad P.length cap) ∧ w.cell? ⟨xb,1,none⟩ = some vT ∧ w.cell? ⟨xb,2,none⟩ = some vS := h.box.c
end
def RM (w : World) (B xb : Nat) (P : List Pt) (T : List Tri3) (S : List Seg3) (R : Nat → Prop) : Prop :=
 ∃ ad cap vT vS,RMs w B xb P ad cap T vT S vS ∧ (∀ i,RB xb ad vT vS i → R i) ∧ ∀ i,R i → i < w.heap.size
section
variable {w w' : World} {B xb : Nat} {P : List Pt} {T : List Tri3} {S : List Seg3} {R : Nat → Prop}
theorem RM.below (h : RM w B xb P T S R) (hb : Below w.heap.size w w') : RM w' B xb P T S R := by
 obtain ⟨ad,cap,vT,vS,h1,h2,h3⟩ := h
 exact ⟨ad,cap,vT,vS,h1.below hb,h2,fun i hi => Nat.lt_of_lt_of_le (h3 i hi) hb.size⟩
theorem RM.stay (h : RM w B xb P T S R) {F : Nat → Prop} (hs : Stay F w w') (hd : ∀ i,R i → ¬F i) : RM w' B xb P T S R := by
 obtain ⟨ad,cap,vT,vS,h1,h2,h3⟩ := h
 exact ⟨ad,cap,vT,vS,h1.stay hs (fun i hi => hd i (h2 i hi)),h2,fun i hi => Nat.lt_of_lt_of_le (h3 i hi) hs.size⟩
end
end Go.Proofs.YtbagikgpgdlkcaaGreatDoor
namespace Go.Proofs.YtbagikgpgdlkcaaGreatDoor
open Go.RowKit Tvf Go.Maps Go.WideMaps
theorem run_append_zero {P : Program} (w : World) (t ty e : TypeId) (i : TypeInfo) (ht : P.underlying t = some (.slice e)) (hi : P.info? e = some i) (b : Option Addr) (n c : Nat) (hnc : n ≤ c) (x : Option Addr) (c2 : Nat) :
  (Builtin.append_ #[t,t] ty #[.slice b n c,.slice x 0 c2]).run P w = .ok (.slice b n c) w := by
 have h1 := run_firstCells_none (P := P) w i.size 0 0 c2
 have h2 : ∀ a,(Builtin.firstCells i.size 0 (.slice (some a) 0 c2)).run P w = .ok #[] w := fun a => run_firstCells_some (P := P) w i.size 0 a 0 c2 [] (by simp) (fun j v hj => by simp at hj)
 cases x with
 | none => cases b <;> simp [Builtin.append_,run_underlying ht,sizeOf,typeInfo,hi,Builtin.lenOf,hnc,h1,storeCells]
 | some a => cases b <;> simp [Builtin.append_,run_underlying ht,sizeOf,typeInfo,hi,Builtin.lenOf,hnc,h2,storeCells]
theorem wpList_append_zero {P : Program} {w : World} {ops : Array Oper} {rest : List Oper} {o : Oper} {a : Act} {Q : Exit → Act → World → Prop} (hgd : o.guard = none) (s x : Operand) (t : TypeId)
  (ho : o.op = .call { callee := .builtin .append,args := #[s,x],argTypes := #[t,t] }) (e : TypeId) (i : TypeInfo) (ht : P.underlying t = some (.slice e)) (hi : P.info? e = some i) (b : Option Addr) (n c : Nat)
  (hs : a.eval s = .slice b n c) (hnc : n ≤ c) (y : Option Addr) (c2 : Nat) (hx : a.eval x = .slice y 0 c2) (h : wpList P ops Q rest (a.put o.dst (.slice b n c)) w) : wpList P ops Q (o :: rest) a w :=
 wpList_plain hgd fun K hK => by
  have hr := run_append_zero (P := P) w t o.type e i ht hi b n c hnc y c2
  unfold Oper.wp execOp
  simp only [ho,resolve,invoke,builtin,Sem.run_bind,Sem.run_pure,Result.andThen_ok,List.map_toArray,List.map_cons,List.map_nil,hs,hx,hr]
  exact hK _ _ h
theorem owns_pts15 {w : World} {base : Nat} {v : Value} {l : List Pt} (h : w.ownsRow base 68 2 v l.length (cellsP l)) : ∃ ad cap,v = .slice ad l.length cap ∧ PCells w ad l ∧ ∀ g,ad = some g → base ≤ g.block ∧ g.block < w.heap.size := by
 rcases h.2 with ⟨h1,h2⟩ | ⟨g,cap,cur,h1,h2,h3,h4,h5,h6,h7⟩
 ·exact ⟨none,0,by rw [h2]; exact h1,fun hl => absurd h2 (by omega),fun _ e => by cases e⟩
 ·have hg : g < w.heap.size := (Array.getElem?_eq_some_iff.1 h3).1
  refine ⟨some ⟨g,0,none⟩,cap,h1,fun _ => ⟨g,0,rfl,hg,fun i hi => ?_⟩,fun a e => by cases e; exact ⟨h2,hg⟩⟩
  have hp := h
  rw [h1] at hp
  have := cellsP_at l i hi
  refine ⟨?_,?_⟩
  ·rw [hp.cellAt _ (by omega)]; simpa using this.1
  ·rw [hp.cellAt _ (by omega)]; simpa using this.2
theorem new15_bad (l : List Pt) (ad : Option Addr) (cap : Nat) (h64 : ∀ p,p ∈ l → pt64 p) (hk : allCode l ≠ 0) (w : World) (hc : PCells w ad l) :
  Calls Tryz.prog 30 #[.slice ad l.length cap] w fun r w' => r = .returned (.tuple #[.pointer none,.int .i64 (allCode l)]) ∧ Below w.heap.size w w' := by
 have HA := Lib.hid (all07 l ad cap h64 w hc)
 generalize allCode l = k at *
 clear h64 hc
 go_enter Tryz.func30,Tryz.ntmps30
 go_wp2_with (go_at_call 38; (with_reducible refine HA.out.mono ?_); rintro r w1 ⟨i,rfl,hb1⟩)
 go_ret2
 exact ⟨rfl,hb1⟩
theorem rm_new {w w2 : World} {l : List Pt} {v : Value} {t : TypeId} (ho : w2.ownsRow w.heap.size 68 2 v l.length (cellsP l)) (hb2 : Below w.heap.size w w2) (ht : t = 47) :
  ∃ R,RM (w2.alloc (.cells #[v,.slice none 0 0,.slice none 0 0] t)) w.heap.size w2.heap.size l [] [] R ∧ Below w.heap.size w (w2.alloc (.cells #[v,.slice none 0 0,.slice none 0 0] t)) ∧ ∀ i,R i → w.heap.size ≤ i := by
 subst ht
 obtain ⟨ad,cap,rfl,hp,hg⟩ := owns_pts15 ho
 have hal : Below w2.heap.size w2 (w2.alloc (.cells #[.slice ad l.length cap,.slice none 0 0,.slice none 0 0] 47)) := (Below.refl _ _).alloc (Nat.le_refl _) _
 have hsz : (w2.alloc (.cells #[.slice ad l.length cap,.slice none 0 0,.slice none 0 0] 47)).heap.size = w2.heap.size + 1 := by simp
 refine ⟨RB w2.heap.size ad (.slice none 0 0) (.slice none 0 0),⟨ad,cap,.slice none 0 0,.slice none 0 0,⟨Box3.new _ _ _ _ _,hp.below hal,World.ownsRow_nil _ _ _ _,World.ownsRow_nil _ _ _ _,fun g e => by have := (hg g e).2; omega,fun g e => by simp [Value.ownBlock],fun g e => by simp [Value.ownBlock],by simp [Value.ownBlock],by simp [Value.ownBlock],fun b e => by simp [Value.ownBlock] at e,by rw [hsz]; exact Nat.le_trans hb2.size (Nat.le_succ _),fun g e => by have := (hg g e).2; rw [hsz]; omega⟩,fun i h => h,?_⟩,hb2.alloc hb2.size _,?_⟩
 ·rintro i (rfl | ⟨g,e,rfl⟩ | e | e)
  ·rw [hsz]; omega
  ·have := (hg g e).2; rw [hsz]; omega
  ·simp [Value.ownBlock] at e
  ·simp [Value.ownBlock] at e
 ·rintro i (rfl | ⟨g,e,rfl⟩ | e | e)
  ·exact hb2.size
  ·exact (hg g e).1
  ·simp [Value.ownBlock] at e
  ·simp [Value.ownBlock] at e
theorem new15_ok (l : List Pt) (ad : Option Addr) (cap : Nat) (h64 : ∀ p,p ∈ l → pt64 p) (hk : allCode l = 0) (hl : l.length ≤ 1048576) (w : World) (hc : PCells w ad l) :
  Calls Tryz.prog 30 #[.slice ad l.length cap] w fun r w' => ∃ xb R,r = .returned (.tuple #[.pointer (some ⟨xb,0,none⟩),.int .i64 0]) ∧ RM w' w.heap.size xb l [] [] R ∧ Below w.heap.size w w' ∧ ∀ i,R i → w.heap.size ≤ i := by
 obtain ⟨i0,hi,hz0,hz1,hz2⟩ := info_parts infoPt
 have HA := Lib.hid (all07 l ad cap h64 w hc)
 rw [hk] at HA
 have HL := Lib.hid hl
 cases ad with
 | none =>
  have hl0 : l = [] := by
   cases l with
   | nil => rfl
   | cons p r => obtain ⟨b,off,e,_⟩ := hc (by simp); cases e
  subst hl0
  clear h64 hk hl hc
  rw [List.length_nil] at HA ⊢
  go_enter Tryz.func30,Tryz.ntmps30
  go_wp2_with (first
   |(go_at_call 38; (with_reducible refine HA.out.mono ?_); rintro r w1 ⟨i,rfl,hb1⟩)
   |(at_builtin; refine wpList_append_zero rfl _ _ 22 rfl 68 i0 Tryz.underlying22 hi _ _ _ rfl (Nat.le_refl _) _ _ rfl ?_))
  go_ret2
  have ho : (w1.alloc (.cells #[] 68)).ownsRow w.heap.size 68 2 (.slice (some ⟨w1.heap.size,0,none⟩) 0 0) ([] : List Pt).length (cellsP []) := ⟨rfl,.inr ⟨w1.heap.size,0,#[],rfl,hb1.size,heap_alloc_new _ _,Nat.le_refl _,Nat.zero_le _,rfl,rfl⟩⟩
  obtain ⟨R,h1,h2,h3⟩ := rm_new ho (hb1.alloc hb1.size _) rfl
  rw [show (w1.alloc (.cells #[] 68)).heap.size = w1.heap.size + 1 from by simp] at h1
  exact ⟨_,R,rfl,h1,h2,h3⟩
 | some a =>
  have HC : Hid (∀ W,Below w.heap.size w W → ∀ o j u,(cellsP l)[j]? = some u → (W.alloc o).cell? (a.add j) = some u) := fun W hb o j u hj => by
   have h0 : 0 < l.length := by
    cases l with
    | nil => simp [cellsP] at hj
    | cons p r => simp
   obtain ⟨b,off,e,hlt,_⟩ := hc h0
   cases e
   have hcell := hc.cell j u hj
   have e2 : (⟨b,off,none⟩ : Addr).add j = ⟨b,off + j,none⟩ := by simp [Addr.add]
   rw [e2]
   exact cell_al ((hb.cell (p := ⟨b,off + j,none⟩) hlt).trans hcell) o
  have HP1 := Lib.hid (cellsP_one l)
  have HPL := Lib.hid (cellsP_len l)
  clear h64 hk hl hc
  go_enter Tryz.func30,Tryz.ntmps30
  go_wp2_with (first
   |(go_at_call 38; (with_reducible refine HA.out.mono ?_); rintro r w1 ⟨i,rfl,hb1⟩)
   |(at_builtin; refine wpList_append_own _ rfl _ _ 22 rfl w1.heap.size 68 i0 (.agg #[.float .f64 0,.float .f64 0]) 2 16 Tryz.underlying22 hi hz0 hz1 hz2 rfl (by decide) _ _ _ rfl (World.ownsRow_made w1 #[] 0 (Nat.le_refl _) (Nat.zero_le _) (by simp)) a l.length cap (cellsP l) rfl ?qc1 ?qc2 ?qc3 ?qc4 ?qc5 ?qc6 ?_))
  case qc1 => exact HPL.out
  case qc2 => exact HC.out w1 hb1 _
  case qc3 => exact HP1.out
  case qc4 => have := HL.out; unfold maxLen; omega
  case qc5 => have := HL.out; omega
  case qc6 => simp
  intro v' w2 hown hgrow hnil
  have ho : w2.ownsRow w.heap.size 68 2 v' l.length (cellsP l) := ownsRow_down hb1.size (by simpa using hown)
  obtain ⟨g9,c9,hv⟩ : ∃ g9 c9,v' = .slice g9 l.length c9 := by obtain ⟨ad', c', e,_⟩ := owns_pts15 ho; exact ⟨_,_,e⟩
  subst hv
  go_wp2
  go_ret2
  have hb2 : Below w.heap.size w w2 := hb1.trans (((Below.refl _ w1).alloc (Nat.le_refl _) _).grown hgrow (by simp) (by intro k hk; simp [Value.ownBlock] at hk; omega) |>.mono hb1.size)
  obtain ⟨R,h1,h2,h3⟩ := rm_new ho hb2 rfl
  exact ⟨_,R,rfl,h1,h2,h3⟩
end Go.Proofs.YtbagikgpgdlkcaaGreatDoor
namespace Go.Proofs.YtbagikgpgdlkcaaGreatDoor
open Tvf
theorem apT_some {a b c : Int} (hne : a ≠ b ∧ b ≠ c ∧ a ≠ c) (x y z : Int) : apT (a,b,c) x y = some z ↔ inT (a,b,c) x y z := by
 unfold apT inT
 dsimp only
 split
 ·rename_i h
  simp only [Option.some.injEq]
  omega
 ·split
  ·rename_i h1 h
   simp only [Option.some.injEq]
   omega
  ·split
   ·rename_i h1 h2 h
    simp only [Option.some.injEq]
    omega
   ·simp only [reduceCtorEq,false_iff]
    omega
theorem apR_snoc (T : List Tri3) (t : Tri3) (x y : Int) : apR (T ++ [t]) x y = (apR T x y).or (apT t x y) := by
 unfold apR
 rw [List.findSome?_append]
 congr 1
 simp only [List.findSome?_cons,List.findSome?_nil]
 cases apT t x y <;> rfl
structure Twin (M : MeshM) (T : List Tri3) : Prop where
 s : Sound M
 ap : ∀ x y,M.ap x y = apR T x y
 mem : ∀ x y z,apR T x y = some z ↔ ∃ t,t ∈ T ∧ inT t x y z
 dis : T.Pairwise (fun t u => ∀ x y z z', ¬(inT t x y z ∧ inT u x y z'))
 ne : ∀ t,t ∈ T → t.1 ≠ t.2.1 ∧ t.2.1 ≠ t.2.2 ∧ t.1 ≠ t.2.2
theorem Twin.empty (l : List Pt) : Twin (emptyM l) [] :=
 ⟨emptyM_sound l,fun _ _ => rfl,fun x y z => ⟨fun h => (nomatch h),fun ⟨t,h,_⟩ => absurd h (by simp)⟩,List.Pairwise.nil,fun t h => absurd h (by simp)⟩
theorem Twin.code {M : MeshM} {T : List Tri3} (h : Twin M T) (a b c : Int) : mkCode M.P T a b c = makeCode M a b c := by
 unfold mkCode makeCode takenB
 rw [← h.ap,← h.ap,← h.ap]
 have e1 : (hasP M.P a && (hasP M.P b && hasP M.P c)) = (hasM M a && hasM M b && hasM M c) := by
  show (hasM M a && (hasM M b && hasM M c)) = _
  rw [Bool.and_assoc]
 rw [e1]
 show (if _ then _ else if signM M a.toNat b.toNat c.toNat ≤ 0 then _ else _) = _
 rw [Bool.or_assoc]
theorem Twin.make {M : MeshM} {T : List Tri3} (h : Twin M T) (a b c : Int) : Twin (makeR M a b c) (mkR M.P T a b c) := by
 unfold mkR makeR
 rw [h.code]
 split
 ·rename_i hc
  obtain ⟨⟨ra,rb,rc⟩,hs,h0,h1,h2⟩ := makeCode_ok hc
  have hne := sgn_toNat hs ⟨ra.1,rb.1,rc.1⟩
  have hR : makeR M a b c = makeM M a b c := by unfold makeR; rw [if_pos hc]
  have free : ∀ x y z,inT (a,b,c) x y z → apR T x y = none := by
   intro x y z hi
   rw [← h.ap]
   unfold inT at hi
   rcases hi with ⟨rfl,rfl,_⟩ | ⟨rfl,rfl,_⟩ | ⟨rfl,rfl,_⟩
   ·exact h0
   ·exact h1
   ·exact h2
  have hmem : ∀ x y z,apR (T ++ [(a,b,c)]) x y = some z ↔ apR T x y = some z ∨ inT (a,b,c) x y z := by
   intro x y z
   rw [apR_snoc]
   cases e : apR T x y with
   | none => rw [Option.none_or,apT_some hne]; simp
   | some v =>
    rw [Option.some_or]
    constructor
    ·exact .inl
    ·rintro (q | q)
     ·exact q
     ·rw [free x y z q] at e; cases e
  refine ⟨by rw [← hR]; exact makeR_sound h.s a b c,fun x y => ?_,fun x y z => ?_,?_,?_⟩
  ·have := opt_ext (f := (makeM M a b c).ap) (g := apR (T ++ [(a,b,c)])) (fun x y z => by
    rw [makeM_ap,up3_some h0 h1 h2 hne,hmem,h.ap]
    unfold inT
    dsimp only
    exact Iff.rfl)
   rw [this]
  ·rw [hmem,h.mem]
   constructor
   ·rintro (⟨t,ht,hi⟩ | hi)
    ·exact ⟨t,by simp [ht],hi⟩
    ·exact ⟨(a,b,c),by simp,hi⟩
   ·rintro ⟨t,ht,hi⟩
    rcases List.mem_append.1 ht with ht | ht
    ·exact .inl ⟨t,ht,hi⟩
    ·rw [List.mem_singleton] at ht; subst ht; exact .inr hi
  ·rw [List.pairwise_append]
   refine ⟨h.dis,List.pairwise_singleton _ _,fun t ht u hu x y z z' => ?_⟩
   rw [List.mem_singleton] at hu
   subst hu
   rintro ⟨q1,q2⟩
   have := (h.mem x y z).2 ⟨t,ht,q1⟩
   rw [free x y z' q2] at this
   cases this
  ·intro t ht
   rcases List.mem_append.1 ht with ht | ht
   ·exact h.ne t ht
   ·rw [List.mem_singleton] at ht; subst ht; exact hne
 ·exact h
def own3 (t : Tri3) : Tri3 := if t.1 < t.2.1 ∧ t.1 < t.2.2 then t else if t.2.1 < t.2.2 ∧ t.2.1 < t.1 then (t.2.1,t.2.2,t.1) else (t.2.2,t.1,t.2.1)
theorem own3_lead {t : Tri3} (h : t.1 ≠ t.2.1 ∧ t.2.1 ≠ t.2.2 ∧ t.1 ≠ t.2.2) : (own3 t).1 < (own3 t).2.1 ∧ (own3 t).1 < (own3 t).2.2 := by
 unfold own3
 split
 ·assumption
 ·split
  ·dsimp only; assumption
  ·dsimp only; omega
theorem own3_in (t : Tri3) (x y z : Int) : inT (own3 t) x y z ↔ inT t x y z := by
 unfold own3 inT
 split
 ·exact Iff.rfl
 ·split <;> dsimp only <;> constructor <;> intro h <;> omega
theorem Twin.tris {M : MeshM} {T : List Tri3} (h : Twin M T) (x : Tri3) : x ∈ trisL M.ap M.P.length ↔ x ∈ T.map own3 := by
 rw [mem_trisL h.s.win,List.mem_map]
 constructor
 ·rintro ⟨h1,h2,h3⟩
  rw [h.ap,h.mem] at h1
  obtain ⟨t,ht,hi⟩ := h1
  refine ⟨t,ht,(canon_eq (x := x.1) (y := x.2.1) (z := x.2.2) ⟨h2,h3⟩ (own3_lead (h.ne t ht)) (.inl ⟨rfl,rfl,rfl⟩) ((own3_in t _ _ _).2 hi)).symm⟩
 ·rintro ⟨t,ht,rfl⟩
  have hl := own3_lead (h.ne t ht)
  refine ⟨?_,hl.1,hl.2⟩
  rw [h.ap,h.mem]
  exact ⟨t,ht,(own3_in t _ _ _).1 (.inl ⟨rfl,rfl,rfl⟩)⟩
theorem Twin.nodup {M : MeshM} {T : List Tri3} (h : Twin M T) : (T.map own3).Nodup := by
 unfold List.Nodup
 rw [List.pairwise_map]
 refine h.dis.imp ?_
 intro t u hd e
 have h1 := (own3_in t (own3 t).1 (own3 t).2.1 (own3 t).2.2).1 (.inl ⟨rfl,rfl,rfl⟩)
 have h2 := (own3_in u (own3 u).1 (own3 u).2.1 (own3 u).2.2).1 (.inl ⟨rfl,rfl,rfl⟩)
 rw [← e] at h2
 exact hd _ _ _ _ ⟨h1,h2⟩
end Go.Proofs.YtbagikgpgdlkcaaGreatDoor
namespace Go.Proofs.YtbagikgpgdlkcaaGreatDoor
def InsP (L : List (Int × Int)) (x : Int × Int) (k : Nat) : Prop := k ≤ L.length ∧ (∀ j,j < k → ltP (L.getD j (0,0)) x) ∧ (k < L.length → ¬ltP (L.getD k (0,0)) x)
theorem pwP_getD {L : List (Int × Int)} (h : L.Pairwise ltP) {i j : Nat} (hij : i < j) (hj : j < L.length) : ltP (L.getD i (0,0)) (L.getD j (0,0)) := by
 have hi : i < L.length := by omega
 have e : ∀ k (hk : k < L.length),L.getD k (0,0) = L[k] := fun k hk => by rw [List.getD_eq_getElem?_getD,List.getElem?_eq_getElem hk]; rfl
 rw [e i hi,e j hj]
 exact List.pairwise_iff_getElem.1 h i j hi hj hij
theorem insP_sorted {L : List (Int × Int)} {t : Int × Int} {k : Nat} (hL : L.Pairwise ltP) (h : InsP L t k) (hn : k < L.length → L.getD k (0,0) ≠ t) : (L.take k ++ [t] ++ L.drop k).Pairwise ltP ∧ ∀ x,x ∈ L.take k ++ [t] ++ L.drop k ↔ x ∈ L ∨ x = t := by
 obtain ⟨hk,h1,h2⟩ := h
 have e : ∀ j (hj : j < L.length),L.getD j (0,0) = L[j] := fun j hj => by rw [List.getD_eq_getElem?_getD,List.getElem?_eq_getElem hj]; rfl
 have ha : ∀ x,x ∈ L.take k → ltP x t := by
  intro x hx
  obtain ⟨j,hj,rfl⟩ := List.getElem_of_mem hx
  rw [List.length_take] at hj
  have hjL : j < L.length := by omega
  rw [List.getElem_take,← e j hjL]
  exact h1 j (by omega)
 have hb : ∀ x,x ∈ L.drop k → ltP t x := by
  intro x hx
  obtain ⟨j,hj,rfl⟩ := List.getElem_of_mem hx
  rw [List.length_drop] at hj
  have hjL : k + j < L.length := by omega
  rw [List.getElem_drop,← e _ hjL]
  have hkL : k < L.length := by omega
  have hfirst : ltP t (L.getD k (0,0)) := by
   apply Classical.byContradiction
   intro hc
   exact hn hkL (ltP_tot _ _ (h2 hkL) hc)
  rcases Nat.eq_zero_or_pos j with rfl | q
  ·exact hfirst
  ·exact ltP_trans _ _ _ hfirst (pwP_getD hL (by omega) hjL)
 have hab : (L.take k).Pairwise ltP ∧ (L.drop k).Pairwise ltP ∧ ∀ x,x ∈ L.take k → ∀ y,y ∈ L.drop k → ltP x y := by
  have := hL
  rw [← List.take_append_drop k L] at this
  exact List.pairwise_append.1 this
 constructor
 ·rw [List.append_assoc,List.pairwise_append]
  refine ⟨hab.1,?_,fun x hx y hy => ?_⟩
  ·rw [List.singleton_append,List.pairwise_cons]
   exact ⟨hb,hab.2.1⟩
  ·rw [List.singleton_append] at hy
   rcases List.mem_cons.1 hy with rfl | hy
   ·exact ha x hx
   ·exact hab.2.2 x hx y hy
 ·intro x
  have hm : x ∈ L ↔ x ∈ L.take k ∨ x ∈ L.drop k := by
   conv => lhs; rw [← List.take_append_drop k L]
   exact List.mem_append
  rw [hm]
  simp only [List.mem_append,List.mem_singleton]
  constructor
  ·rintro ((h | h) | h)
   ·exact .inl (.inl h)
   ·exact .inr h
   ·exact .inl (.inr h)
  ·rintro ((h | h) | h)
   ·exact .inl (.inl h)
   ·exact .inr h
   ·exact .inl (.inr h)
def InsT (L : List Tri3) (t : Tri3) (k : Nat) : Prop := k ≤ L.length ∧ (∀ j,k ≤ j → j < L.length → ltT t (L.getD j (0,0,0))) ∧ (0 < k → ¬ltT t (L.getD (k - 1) (0,0,0)))
theorem pw_getD {L : List Tri3} (h : L.Pairwise ltT) {i j : Nat} (hij : i < j) (hj : j < L.length) : ltT (L.getD i (0,0,0)) (L.getD j (0,0,0)) := by
 have hi : i < L.length := by omega
 have e : ∀ k (hk : k < L.length),L.getD k (0,0,0) = L[k] := fun k hk => by rw [List.getD_eq_getElem?_getD,List.getElem?_eq_getElem hk]; rfl
 rw [e i hi,e j hj]
 exact List.pairwise_iff_getElem.1 h i j hi hj hij
theorem ins_sorted {L : List Tri3} {t : Tri3} {k : Nat} (hL : L.Pairwise ltT) (hn : t ∉ L) (h : InsT L t k) : (L.take k ++ [t] ++ L.drop k).Pairwise ltT ∧ ∀ x,x ∈ L.take k ++ [t] ++ L.drop k ↔ x ∈ L ∨ x = t := by
 obtain ⟨hk,h1,h2⟩ := h
 have e : ∀ j (hj : j < L.length),L.getD j (0,0,0) = L[j] := fun j hj => by rw [List.getD_eq_getElem?_getD,List.getElem?_eq_getElem hj]; rfl
 have ha : ∀ x,x ∈ L.take k → ltT x t := by
  intro x hx
  obtain ⟨j,hj,rfl⟩ := List.getElem_of_mem hx
  rw [List.length_take] at hj
  have hjL : j < L.length := by omega
  rw [List.getElem_take,← e j hjL]
  have hk1 : k - 1 < L.length := by omega
  have hlast : ltT (L.getD (k - 1) (0,0,0)) t := by
   apply Classical.byContradiction
   intro hc
   have := ltT_tot _ _ (h2 (by omega)) hc
   exact hn (by rw [this,e _ hk1]; exact List.getElem_mem hk1)
  rcases Nat.lt_or_ge j (k - 1) with q | q
  ·exact ltT_trans _ _ _ (pw_getD hL q hk1) hlast
  ·rw [show j = k - 1 by omega]; exact hlast
 have hb : ∀ x,x ∈ L.drop k → ltT t x := by
  intro x hx
  obtain ⟨j,hj,rfl⟩ := List.getElem_of_mem hx
  rw [List.length_drop] at hj
  have hjL : k + j < L.length := by omega
  rw [List.getElem_drop,← e _ hjL]
  exact h1 (k + j) (by omega) hjL
 have hab : (L.take k).Pairwise ltT ∧ (L.drop k).Pairwise ltT ∧ ∀ x,x ∈ L.take k → ∀ y,y ∈ L.drop k → ltT x y := by
  have := hL
  rw [← List.take_append_drop k L] at this
  exact List.pairwise_append.1 this
 constructor
 ·rw [List.append_assoc,List.pairwise_append]
  refine ⟨hab.1,?_,fun x hx y hy => ?_⟩
  ·rw [List.singleton_append,List.pairwise_cons]
   exact ⟨hb,hab.2.1⟩
  ·rw [List.singleton_append] at hy
   rcases List.mem_cons.1 hy with rfl | hy
   ·exact ha x hx
   ·exact hab.2.2 x hx y hy
 ·intro x
  have hm : x ∈ L ↔ x ∈ L.take k ∨ x ∈ L.drop k := by
   conv => lhs; rw [← List.take_append_drop k L]
   exact List.mem_append
  rw [hm]
  simp only [List.mem_append,List.mem_singleton]
  constructor
  ·rintro ((h | h) | h)
   ·exact .inl (.inl h)
   ·exact .inr h
   ·exact .inl (.inr h)
  ·rintro ((h | h) | h)
   ·exact .inl (.inl h)
   ·exact .inr h
   ·exact .inl (.inr h)
def Srt (T : List Tri3) (i : Nat) (L : List Tri3) : Prop := L.Pairwise ltT ∧ (∀ x,x ∈ L ↔ x ∈ (T.take i).map own3) ∧ L.length = i
theorem Srt.nil (T : List Tri3) : Srt T 0 [] := ⟨List.Pairwise.nil,fun x => by simp,rfl⟩
theorem Srt.step {T : List Tri3} {i : Nat} {L : List Tri3} {k : Nat} (h : Srt T i L) (hi : i < T.length) (hnd : (T.map own3).Nodup) (hk : InsT L (own3 (T.getD i (0,0,0))) k) : Srt T (i + 1) (L.take k ++ [own3 (T.getD i (0,0,0))] ++ L.drop k) := by
 have e : T.getD i (0,0,0) = T[i] := by rw [List.getD_eq_getElem?_getD,List.getElem?_eq_getElem hi]; rfl
 have et : T.take (i + 1) = T.take i ++ [T.getD i (0,0,0)] := by rw [e,List.take_add_one,List.getElem?_eq_getElem hi]; rfl
 have hn : own3 (T.getD i (0,0,0)) ∉ L := by
  rw [h.2.1]
  intro hm
  have h1 : (T.take (i + 1)).map own3 = (T.take i).map own3 ++ [own3 (T.getD i (0,0,0))] := by rw [et,List.map_append]; rfl
  have h2 : ((T.take (i + 1)).map own3).Nodup := ((List.take_sublist (i + 1) T).map own3).nodup hnd
  rw [h1,List.nodup_append] at h2
  exact h2.2.2 _ hm _ (by simp) rfl
 obtain ⟨h1,h2⟩ := ins_sorted h.1 hn hk
 refine ⟨h1,fun x => ?_,?_⟩
 ·rw [h2,h.2.1,et,List.map_append,List.mem_append]
  simp
 ·have hl := h.2.2
  have := hk.1
  simp only [List.length_append,List.length_take,List.length_drop,List.length_cons,List.length_nil]
  omega
theorem Srt.all {M : MeshM} {T L : List Tri3} (h : Twin M T) (hs : Srt T T.length L) : L = trisL M.ap M.P.length :=
 pw_unique ltT_irr ltT_trans _ _ hs.1 (trisL_sorted _ _) (fun x => by rw [hs.2.1,List.take_length,h.tris])
end Go.Proofs.YtbagikgpgdlkcaaGreatDoor
