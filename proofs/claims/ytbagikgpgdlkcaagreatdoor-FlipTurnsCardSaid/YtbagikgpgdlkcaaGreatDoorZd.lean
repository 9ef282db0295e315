/- Part of the proof. No conditions. -/
import Derived.Test.YtbagikgpgdlkcaaGreatDoorZc
set_option linter.all false
set_option maxHeartbeats 8000000
set_option maxRecDepth 100000
namespace Go.Proofs.YtbagikgpgdlkcaaGreatDoor
open Go.RowKit Tvf Go.Maps Go.WideMaps
structure PR (w wr : World) (v : Value) (L : List (Int × Int)) : Prop where
 own : wr.ownsRow w.heap.size 42 2 v L.length (cellsK encP L)
 low : Below w.heap.size w wr
theorem RMs.form {w : World} {B xb : Nat} {P : List Pt} {ad : Option Addr} {cap : Nat} {T : List Tri3} {vT : Value} {S : List Seg3} {vS : Value} (h : RMs w B xb P ad cap T vT S vS) : ∃ g cp,vT = .slice g T.length cp ∧ ∀ i,i < T.length → ∃ b,g = some ⟨b,0,none⟩ := by
 rcases h.tri.2 with ⟨rfl,h0⟩ | ⟨g,cp,cur,rfl,_⟩
 ·exact ⟨none,0,by rw [h0],fun i hi => by omega⟩
 ·exact ⟨_,_,rfl,fun i hi => ⟨g,rfl⟩⟩
theorem RMs.tcell {w : World} {B xb : Nat} {P : List Pt} {ad : Option Addr} {cap : Nat} {T : List Tri3} {S : List Seg3} {vS : Value} {g : Option Addr} {cp n : Nat} (h : RMs w B xb P ad cap T (.slice g n cp) S vS) {i k : Nat} (hi : i < T.length) (hk : k < 3) : ∃ b,g = some ⟨b,0,none⟩ ∧ w.cell? ⟨b,i * 3 + k,none⟩ = some (.int .i64 (tvT (T.getD i (0,0,0)) k)) := by
 have ho := h.tri
 rcases ho.2 with ⟨_,h0⟩ | ⟨b,cp', cur,e,_⟩
 ·omega
 ·cases e
  obtain ⟨x0,x1,x2⟩ := tri_cells ho (i := i) (by omega)
  refine ⟨b,rfl,?_⟩
  have h4 : k = 0 ∨ k = 1 ∨ k = 2 := by omega
  rcases h4 with rfl | rfl | rfl
  ·exact x0
  ·exact x1
  ·exact x2
theorem eqFields_all {P : Program} (d : Nat) (xs : Array Value) : ∀ (fs : List Field) (w : World),(∀ f,f ∈ fs → ∃ a,(∀ w,(part f.type xs f.offset).run P w = .ok a w) ∧ ∀ w,(Op.equalIn d f.type a a).run P w = .ok true w) → (Op.eqFields d xs xs fs).run P w = .ok true w
 | [],w,_ => by simp [Op.eqFields]
 | f :: r,w,h => by
  obtain ⟨a,h1,h2⟩ := h f (by simp)
  have ih := eqFields_all d xs r w (fun g hg => h g (by simp [hg]))
  unfold Op.eqFields
  split
  ·simp only [Sem.run_bind,h1,h2,Result.andThen_ok,Bool.not_true,Bool.false_eq_true,if_false]
   exact ih
  ·exact ih
end Go.Proofs.YtbagikgpgdlkcaaGreatDoor
