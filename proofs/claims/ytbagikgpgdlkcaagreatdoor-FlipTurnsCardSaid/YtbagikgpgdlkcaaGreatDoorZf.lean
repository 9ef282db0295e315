/- Part of the proof. No conditions. -/
import Derived.Test.YtbagikgpgdlkcaaGreatDoorZa
import Derived.LaidMore
import Derived.Lib.RowBridge
import Derived.Deep.Strs
set_option linter.all false
set_option maxHeartbeats 8000000
set_option maxRecDepth 100000
namespace Go.Proofs.YtbagikgpgdlkcaaGreatDoor
open Go.ChangeShapes Go.WideShapes Go.ChangeAt Go.RowKit Go.Deep
section
variable {H : Type} {enc : TypeId × Value → H} {W : World} {base : Nat} {spare : Nat → Bool} {held : Bool}
theorem trod_f64 {P : Program} {t : TypeId} {fuel : Nat} {cs : List Value} {x : DataW H × List MemPlace} (ht : P.underlying t = some (.float .f64)) (h : DataW.trod enc P W base spare held fuel t cs = some x) : ∃ b,cs = [.float .f64 b] ∧ b < 2 ^ 64 := by
 cases fuel with
 | zero => simp [DataW.trod] at h
 | succ n =>
  unfold DataW.trod at h
  rw [ht] at h
  split at h <;> simp_all
  rename_i heq
  have hw := h.1.2
  rw [← heq] at hw
  simpa [Lit.wf] using hw
theorem cells_pt : Tryz.prog.cellsOf 68 = 2 := by kernel_rfl
theorem cells_f64 : Tryz.prog.cellsOf 66 = 1 := by kernel_rfl
theorem cells_tri : Tryz.prog.cellsOf 61 = 3 := by kernel_rfl
theorem trod_pt {fuel : Nat} {cs : List Value} {x : DataW H × List MemPlace} (h : DataW.trod enc Tryz.prog W base spare held fuel 68 cs = some x) : ∃ p : Pt,cs = [.float .f64 p.1,.float .f64 p.2] ∧ pt64 p := by
 obtain ⟨y0,y1,n,_,hl,h0,h1⟩ := trod_struct2 Tryz.underlying68 h
 rw [cells_pt] at hl
 match cs,hl with
 | [u,v],_ =>
  dsimp only at h0 h1
  rw [cells_f64] at h0 h1
  obtain ⟨a,ea,ha⟩ := trod_f64 Tryz.underlying66 h0
  obtain ⟨b,eb,hb⟩ := trod_f64 Tryz.underlying66 h1
  simp at ea eb
  exact ⟨(a,b),by rw [ea,eb],ha,hb⟩
theorem trod_tri {fuel : Nat} {cs : List Value} {x : DataW H × List MemPlace} (h : DataW.trod enc Tryz.prog W base spare held fuel 61 cs = some x) : ∃ t : Tri3,cs = [.int .i64 t.1,.int .i64 t.2.1,.int .i64 t.2.2] ∧ i64ok t.1 ∧ i64ok t.2.1 ∧ i64ok t.2.2 := by
 obtain ⟨xs,m,_,_,hl,hx,hi⟩ := DataW.trod_array Tryz.underlying61 h
 rw [cells_tri] at hl
 match cs,hl,xs,hx with
 | [u,v,z],_,[x0,x1,x2],_ =>
  have h0 := hi 0 (by omega)
  have h1 := hi 1 (by omega)
  have h2 := hi 2 (by omega)
  have ci : Tryz.prog.cellsOf 3 = 1 := by kernel_rfl
  rw [ci] at h0 h1 h2
  obtain ⟨a,ea,_,wa⟩ := DataW.trod_int Tryz.underlying3 h0
  obtain ⟨b,eb,_,wb⟩ := DataW.trod_int Tryz.underlying3 h1
  obtain ⟨c,ec,_,wc⟩ := DataW.trod_int Tryz.underlying3 h2
  simp at ea eb ec
  exact ⟨(a,b,c),by rw [ea,eb,ec],of_wf wa,of_wf wb,of_wf wc⟩
theorem getD_map_range {α : Type} (f : Nat → α) (d : α) {n i : Nat} (h : i < n) : ((List.range n).map f).getD i d = f i := by
 rw [List.getD_eq_getElem?_getD,List.getElem?_map,List.getElem?_range h]; rfl
theorem open_points {fuel : Nat} {v : Value} {x : DataW H × List MemPlace} (h : DataW.trod enc Tryz.prog W base (fun _ => true) held fuel 22 [v] = some x) :
  ∃ ad l cap,v = .slice ad (List.length l) cap ∧ PCells W ad l ∧ ∀ p,p ∈ l → pt64 p := by
 rcases open_slice Tryz.underlying22 h with ⟨hcs,_⟩ | ⟨a,len,cap,m,n,D,Pl,hcs,_,hlc,_,hm,_,hel⟩
 ·simp at hcs
  exact ⟨none,[],0,hcs,fun hl => absurd hl (by simp),fun p hp => by simp at hp⟩
 ·simp at hcs hm
  rw [cells_pt] at hel
  obtain ⟨f,hf⟩ := choose_lt (α := Pt) (n := len) (p := fun i p => W.cell? ((a.add (i * 2)).add 0) = some (.float .f64 p.1) ∧ W.cell? ((a.add (i * 2)).add 1) = some (.float .f64 p.2) ∧ pt64 p ∧ i * 2 < W.heap.size + i * 2 ∧ a.block < W.heap.size ∧ (i = 0 → a.spot = none)) fun i hi => by
   obtain ⟨cs', h1,h2⟩ := hel i (by omega)
   obtain ⟨p,rfl,hp⟩ := trod_pt h2
   obtain ⟨_,_,hc⟩ := World.cells?_some h1
   have c0 := hc 0 (by omega)
   have c1 := hc 1 (by omega)
   have hbl := World.block_lt_of_cell? _ _ c0
   have hsp := World.cell?_spot c0
   have e1 : ((a.add (i * 2)).add 0).block = a.block := by unfold Addr.add; split <;> split <;> rfl
   have e2 : i = 0 → a.spot = none := fun e => by subst e; simpa [Addr.add] using hsp
   rw [e1] at hbl
   exact ⟨p,c0,c1,hp,by omega,hbl,e2⟩
  refine ⟨some a,(List.range len).map f,cap,by simpa using hcs,fun hl => ?_,fun p hp => ?_⟩
  ·simp at hl
   obtain ⟨b,off,spot⟩ := a
   have h0 := hf 0 hl
   obtain rfl : spot = none := h0.2.2.2.2.2 rfl
   refine ⟨b,off,rfl,h0.2.2.2.2.1,fun i hi => ?_⟩
   simp at hi
   obtain ⟨g0,g1,_⟩ := hf i hi
   rw [getD_map_range f (0,0) hi]
   rw [Deep.add_add,add_plain] at g0 g1
   exact ⟨by simpa using g0,by simpa [Nat.add_assoc] using g1⟩
  ·obtain ⟨i,hi,rfl⟩ := List.mem_map.1 hp
   exact (hf i (List.mem_range.1 hi)).2.2.1
theorem open_tris {fuel : Nat} {v : Value} {x : DataW H × List MemPlace} (h : DataW.trod enc Tryz.prog W base (fun _ => true) held fuel 23 [v] = some x) :
  ∃ ad l cap,v = .slice ad (List.length l) cap ∧ TCells W ad l ∧ ∀ t,t ∈ l → i64ok t.1 ∧ i64ok t.2.1 ∧ i64ok t.2.2 := by
 rcases open_slice Tryz.underlying23 h with ⟨hcs,_⟩ | ⟨a,len,cap,m,n,D,Pl,hcs,_,hlc,_,hm,_,hel⟩
 ·simp at hcs
  exact ⟨none,[],0,hcs,fun hl => absurd hl (by simp),fun p hp => by simp at hp⟩
 ·simp at hcs hm
  rw [cells_tri] at hel
  obtain ⟨f,hf⟩ := choose_lt (α := Tri3) (n := len) (p := fun i p => W.cell? ((a.add (i * 3)).add 0) = some (.int .i64 p.1) ∧ W.cell? ((a.add (i * 3)).add 1) = some (.int .i64 p.2.1) ∧ W.cell? ((a.add (i * 3)).add 2) = some (.int .i64 p.2.2) ∧ (i64ok p.1 ∧ i64ok p.2.1 ∧ i64ok p.2.2) ∧ a.block < W.heap.size ∧ (i = 0 → a.spot = none)) fun i hi => by
   obtain ⟨cs', h1,h2⟩ := hel i (by omega)
   obtain ⟨p,rfl,hp⟩ := trod_tri h2
   obtain ⟨_,_,hc⟩ := World.cells?_some h1
   have c0 := hc 0 (by omega)
   have c1 := hc 1 (by omega)
   have c2 := hc 2 (by omega)
   have hbl := World.block_lt_of_cell? _ _ c0
   have hsp := World.cell?_spot c0
   have e1 : ((a.add (i * 3)).add 0).block = a.block := by unfold Addr.add; split <;> split <;> rfl
   have e2 : i = 0 → a.spot = none := fun e => by subst e; simpa [Addr.add] using hsp
   rw [e1] at hbl
   exact ⟨p,c0,c1,c2,hp,hbl,e2⟩
  refine ⟨some a,(List.range len).map f,cap,by simpa using hcs,fun hl => ?_,fun p hp => ?_⟩
  ·simp at hl
   obtain ⟨b,off,spot⟩ := a
   have h0 := hf 0 hl
   obtain rfl : spot = none := h0.2.2.2.2.2 rfl
   refine ⟨b,off,rfl,h0.2.2.2.2.1,fun i hi => ?_⟩
   simp at hi
   obtain ⟨g0,g1,g2,_⟩ := hf i hi
   rw [getD_map_range f (0,0,0) hi]
   rw [Deep.add_add,add_plain] at g0 g1 g2
   exact ⟨by simpa using g0,by simpa [Nat.add_assoc] using g1,by simpa [Nat.add_assoc] using g2⟩
  ·obtain ⟨i,hi,rfl⟩ := List.mem_map.1 hp
   exact (hf i (List.mem_range.1 hi)).2.2.2.1
end
end Go.Proofs.YtbagikgpgdlkcaaGreatDoor
namespace Go.Proofs.YtbagikgpgdlkcaaGreatDoor
open Go.ChangeShapes Go.WideShapes Go.ChangeAt Go.RowKit Go.Deep
section
variable {H : Type} {enc : TypeId × Value → H} {W : World} {base : Nat} {spare : Nat → Bool} {held : Bool}
theorem cells_seg : Tryz.prog.cellsOf 90 = 3 := by kernel_rfl
theorem cells_int17 : Tryz.prog.cellsOf 3 = 1 := by kernel_rfl
theorem cells_given17 : Tryz.prog.cellsOf 26 = 3 := by kernel_rfl
theorem cells_pts17 : Tryz.prog.cellsOf 22 = 1 := by kernel_rfl
theorem cells_tris17 : Tryz.prog.cellsOf 23 = 1 := by kernel_rfl
theorem cells_segs17 : Tryz.prog.cellsOf 24 = 1 := by kernel_rfl
theorem trod_seg {fuel : Nat} {cs : List Value} {x : DataW H × List MemPlace} (h : DataW.trod enc Tryz.prog W base spare held fuel 90 cs = some x) : ∃ t : Seg3,cs = [.int .i64 t.1,.int .i64 t.2.1,.int .i64 t.2.2] ∧ i64ok t.1 ∧ i64ok t.2.1 ∧ i64ok t.2.2 := by
 obtain ⟨y0,y1,y2,n,_,hl,h0,h1,h2⟩ := trod_struct3 Tryz.underlying90 h
 rw [cells_seg] at hl
 match cs,hl with
 | [u,v,z],_ =>
  dsimp only at h0 h1 h2
  rw [cells_int17] at h0 h1 h2
  obtain ⟨a,ea,_,wa⟩ := DataW.trod_int Tryz.underlying3 h0
  obtain ⟨b,eb,_,wb⟩ := DataW.trod_int Tryz.underlying3 h1
  obtain ⟨c,ec,_,wc⟩ := DataW.trod_int Tryz.underlying3 h2
  simp at ea eb ec
  exact ⟨(a,b,c),by rw [ea,eb,ec],of_wf wa,of_wf wb,of_wf wc⟩
theorem open_segs {fuel : Nat} {v : Value} {x : DataW H × List MemPlace} (h : DataW.trod enc Tryz.prog W base (fun _ => true) held fuel 24 [v] = some x) :
  ∃ ad l cap,v = .slice ad (List.length l) cap ∧ SCells W ad l ∧ ∀ t,t ∈ l → i64ok t.1 ∧ i64ok t.2.1 ∧ i64ok t.2.2 := by
 rcases open_slice Tryz.underlying24 h with ⟨hcs,_⟩ | ⟨a,len,cap,m,n,D,Pl,hcs,_,hlc,_,hm,_,hel⟩
 ·simp at hcs
  exact ⟨none,[],0,hcs,fun hl => absurd hl (by simp),fun p hp => by simp at hp⟩
 ·simp at hcs hm
  rw [cells_seg] at hel
  obtain ⟨f,hf⟩ := choose_lt (α := Seg3) (n := len) (p := fun i p => W.cell? ((a.add (i * 3)).add 0) = some (.int .i64 p.1) ∧ W.cell? ((a.add (i * 3)).add 1) = some (.int .i64 p.2.1) ∧ W.cell? ((a.add (i * 3)).add 2) = some (.int .i64 p.2.2) ∧ (i64ok p.1 ∧ i64ok p.2.1 ∧ i64ok p.2.2) ∧ a.block < W.heap.size ∧ (i = 0 → a.spot = none)) fun i hi => by
   obtain ⟨cs', h1,h2⟩ := hel i (by omega)
   obtain ⟨p,rfl,hp⟩ := trod_seg h2
   obtain ⟨_,_,hc⟩ := World.cells?_some h1
   have c0 := hc 0 (by omega)
   have c1 := hc 1 (by omega)
   have c2 := hc 2 (by omega)
   have hbl := World.block_lt_of_cell? _ _ c0
   have hsp := World.cell?_spot c0
   have e1 : ((a.add (i * 3)).add 0).block = a.block := by unfold Addr.add; split <;> split <;> rfl
   have e2 : i = 0 → a.spot = none := fun e => by subst e; simpa [Addr.add] using hsp
   rw [e1] at hbl
   exact ⟨p,c0,c1,c2,hp,hbl,e2⟩
  refine ⟨some a,(List.range len).map f,cap,by simpa using hcs,fun hl => ?_,fun p hp => ?_⟩
  ·simp at hl
   obtain ⟨b,off,spot⟩ := a
   have h0 := hf 0 hl
   obtain rfl : spot = none := h0.2.2.2.2.2 rfl
   refine ⟨b,off,rfl,h0.2.2.2.2.1,fun i hi => ?_⟩
   simp at hi
   obtain ⟨g0,g1,g2,_⟩ := hf i hi
   rw [getD_map_range f (0,0,0) hi]
   rw [Deep.add_add,add_plain] at g0 g1 g2
   exact ⟨by simpa using g0,by simpa [Nat.add_assoc] using g1,by simpa [Nat.add_assoc] using g2⟩
  ·obtain ⟨i,hi,rfl⟩ := List.mem_map.1 hp
   exact (hf i (List.mem_range.1 hi)).2.2.2.1
theorem open_given17 {v : Value} {d : DataW H} {ps : List MemPlace} {P2 : Reach} {b2 : Nat} (hv : Value.okWide Tryz.prog W P2 b2 26 v) (h : DataW.Trod enc Tryz.prog W base (fun _ => true) held 26 v d ps) :
  ∃ l ap cp T at_ ct S sa cs,v = .agg #[.slice ap (List.length l) cp,.slice at_ (List.length T) ct,.slice sa (List.length S) cs] ∧ GivenV W l ap cp T at_ ct S sa cs := by
 obtain ⟨vs,rfl,_⟩ := okWide_struct Tryz.underlying26 hv
 obtain ⟨fuel,hf⟩ := h
 simp only [Value.cells] at hf
 obtain ⟨y0,y1,y2,n,_,hl,h0,h1,h2⟩ := trod_struct3 Tryz.underlying26 hf
 rw [cells_given17] at hl
 obtain ⟨l0⟩ := vs
 match l0,hl with
 | [u,v,z],_ =>
  dsimp only at h0 h1 h2
  rw [cells_pts17] at h0
  rw [cells_tris17] at h1
  rw [cells_segs17] at h2
  simp only [List.drop_zero,List.drop_succ_cons,List.take_succ_cons,List.take_zero] at h0 h1 h2
  obtain ⟨ap,l,cp,e0,hc,h64⟩ := open_points h0
  obtain ⟨at_,T,ct,e1,hct,hti⟩ := open_tris h1
  obtain ⟨sa,S,cs,e2,hsc,hsi⟩ := open_segs h2
  exact ⟨l,ap,cp,T,at_,ct,S,sa,cs,by rw [e0,e1,e2],hc,h64,hct,hti,hsc,hsi⟩
end
end Go.Proofs.YtbagikgpgdlkcaaGreatDoor
