/- FlipTurns' arguments, opened: a mesh as it is given, a row of pairs. -/
import Derived.Test.YtbagikgpgdlkcaaGreatDoorZf
import Derived.Test.YtbagikgpgdlkcaaGreatDoorZn
import Derived.Deep.Strs
set_option linter.all false
set_option maxHeartbeats 8000000
set_option maxRecDepth 100000
namespace Go.Proofs.YtbagikgpgdlkcaaGreatDoor
open Go.ChangeShapes Go.WideShapes Go.ChangeAt Go.RowKit Go.Deep
section
variable {H : Type} {enc : TypeId × Value → H} {W : World} {base : Nat} {spare : Nat → Bool} {held : Bool}
theorem cells_pr17 : Tryz.prog.cellsOf 42 = 2 := by kernel_rfl
theorem trod_pr17 {fuel : Nat} {cs : List Value} {x : DataW H × List MemPlace} (h : DataW.trod enc Tryz.prog W base spare held fuel 42 cs = some x) : ∃ t : Int × Int,cs = [.int .i64 t.1,.int .i64 t.2] ∧ i64ok t.1 ∧ i64ok t.2 := by
 obtain ⟨xs,m,_,_,hl,hx,hi⟩ := DataW.trod_array Tryz.underlying42 h
 rw [cells_pr17] at hl
 match cs,hl,xs,hx with
 | [u,v],_,[x0,x1],_ =>
  have h0 := hi 0 (by omega)
  have h1 := hi 1 (by omega)
  rw [cells_int17] at h0 h1
  obtain ⟨a,ea,_,wa⟩ := DataW.trod_int Tryz.underlying3 h0
  obtain ⟨b,eb,_,wb⟩ := DataW.trod_int Tryz.underlying3 h1
  simp at ea eb
  exact ⟨(a,b),by rw [ea,eb],of_wf wa,of_wf wb⟩
theorem open_prs17 {fuel : Nat} {v : Value} {x : DataW H × List MemPlace} (h : DataW.trod enc Tryz.prog W base (fun _ => true) held fuel 38 [v] = some x) :
  ∃ ad l cap,v = .slice ad (List.length l) cap ∧ PrCells W ad l ∧ ∀ t,t ∈ l → i64ok t.1 ∧ i64ok t.2 := by
 rcases open_slice Tryz.underlying38 h with ⟨hcs,_⟩ | ⟨a,len,cap,m,n,D,Pl,hcs,_,hlc,_,hm,_,hel⟩
 ·simp at hcs
  exact ⟨none,[],0,hcs,fun hl => absurd hl (by simp),fun p hp => by simp at hp⟩
 ·simp at hcs hm
  rw [cells_pr17] at hel
  obtain ⟨f,hf⟩ := choose_lt (α := Int × Int) (n := len) (p := fun i p => W.cell? ((a.add (i * 2)).add 0) = some (.int .i64 p.1) ∧ W.cell? ((a.add (i * 2)).add 1) = some (.int .i64 p.2) ∧ (i64ok p.1 ∧ i64ok p.2) ∧ a.block < W.heap.size ∧ (i = 0 → a.spot = none)) fun i hi => by
   obtain ⟨cs', h1,h2⟩ := hel i (by omega)
   obtain ⟨p,rfl,hp⟩ := trod_pr17 h2
   obtain ⟨_,_,hc⟩ := World.cells?_some h1
   have c0 := hc 0 (by omega)
   have c1 := hc 1 (by omega)
   have hbl := World.block_lt_of_cell? _ _ c0
   have hsp := World.cell?_spot c0
   have e1 : ((a.add (i * 2)).add 0).block = a.block := by unfold Addr.add; split <;> split <;> rfl
   have e2 : i = 0 → a.spot = none := fun e => by subst e; simpa [Addr.add] using hsp
   rw [e1] at hbl
   exact ⟨p,c0,c1,hp,hbl,e2⟩
  refine ⟨some a,(List.range len).map f,cap,by simpa using hcs,fun hl => ?_,fun p hp => ?_⟩
  ·simp at hl
   obtain ⟨b,off,spot⟩ := a
   have h0 := hf 0 hl
   obtain rfl : spot = none := h0.2.2.2.2 rfl
   refine ⟨b,off,rfl,h0.2.2.2.1,fun i hi => ?_⟩
   simp at hi
   obtain ⟨g0,g1,_⟩ := hf i hi
   rw [getD_map_range f (0,0) hi]
   rw [Deep.add_add,add_plain] at g0 g1
   exact ⟨by simpa using g0,by simpa [Nat.add_assoc] using g1⟩
  ·obtain ⟨i,hi,rfl⟩ := List.mem_map.1 hp
   exact (hf i (List.mem_range.1 hi)).2.2.1
end
end Go.Proofs.YtbagikgpgdlkcaaGreatDoor
