/- mesh.sorted at segments: the closures. -/
import Derived.Test.YtdoaniccefdkaaaGreatDoorZN
set_option linter.all false
namespace Go.Proofs.YtdoaniccefdkaaaGreatDoor
open Go.RowKit

def vG (x : Int × Int × Int) : Value := .agg #[.int .i64 x.1, .int .i64 x.2.1, .int .i64 x.2.2]

theorem segKey_walk (x : Int × Int × Int) (w : World) :
    Calls Tryz.prog 144 #[vG x] w fun e w' => e = .returned (vT (x.1, x.2.1, 0)) ∧ w' = ((w.alloc (.cells #[.int .i64 x.1, .int .i64 x.2.1, .int .i64 x.2.2] 141)).alloc (.cells #[.int .i64 x.1, .int .i64 x.2.1, .int .i64 0] 44)) := by
  obtain ⟨a, b, c⟩ := x
  unfold vG vT
  go_enter Tryz.func144, Tryz.ntmps144
  go_wp2
  go_returns
  exact ⟨rfl, rfl⟩

/-- what the closure of mesh.sorted reads -/
def CmpG (w : World) (kb : Nat) (k : Value) (b c : Nat) (x y : Int × Int × Int) : Prop := w.cell? ⟨kb, 0, none⟩ = some k ∧ w.cell? ⟨b, 0, none⟩ = some (.int .i64 x.1) ∧ w.cell? ⟨b, 1, none⟩ = some (.int .i64 x.2.1) ∧ w.cell? ⟨b, 2, none⟩ = some (.int .i64 x.2.2)
      ∧ w.cell? ⟨c, 0, none⟩ = some (.int .i64 y.1) ∧ w.cell? ⟨c, 1, none⟩ = some (.int .i64 y.2.1) ∧ w.cell? ⟨c, 2, none⟩ = some (.int .i64 y.2.2)
theorem CmpG.drew {w : World} {kb : Nat} {k : Value} {b c : Nat} {x y : Int × Int × Int} (h : CmpG w kb k b c x y) : CmpG w.drew kb k b c x y := h
theorem CmpG.alloc {w : World} {kb : Nat} {k : Value} {b c : Nat} {x y : Int × Int × Int} (h : CmpG w kb k b c x y) {o : Obj} : CmpG (w.alloc o) kb k b c x y :=
  ⟨Lib.cell?_alloc_some _ h.1, Lib.cell?_alloc_some _ h.2.1, Lib.cell?_alloc_some _ h.2.2.1, Lib.cell?_alloc_some _ h.2.2.2.1, Lib.cell?_alloc_some _ h.2.2.2.2.1, Lib.cell?_alloc_some _ h.2.2.2.2.2.1, Lib.cell?_alloc_some _ h.2.2.2.2.2.2⟩

set_option maxRecDepth 100000 in
set_option maxHeartbeats 8000000 in
theorem segCmp_walk (kb : Nat) (x y : Int × Int × Int) (w : World) (hk : w.cell? ⟨kb, 0, none⟩ = some (.func (.func 144) #[] #[])) :
    Calls Tryz.prog 183 #[vG x, vG y, .pointer (some ⟨kb, 0, none⟩)] w fun e w' => e = .returned (.int .i64 (cmpT (x.1, x.2.1, 0) (y.1, y.2.1, 0))) ∧ Grew w w' := by
  have HX := Lib.hid (segKey_walk x)
  have HY := Lib.hid (segKey_walk y)
  have HC := Lib.hid (fun p q => compare_walk p q (x.1, x.2.1, 0) (y.1, y.2.1, 0))
  have hkl := World.block_lt_of_cell? _ _ hk
  obtain ⟨x0, x1, x2⟩ := x
  obtain ⟨y0, y1, y2⟩ := y
  unfold vG vT at *
  dsimp only at HX HY HC
  generalize cmpT (x0, x1, 0) (y0, y1, 0) = z at *
  have hB : CmpG ((w.alloc (.cells #[.int .i64 x0, .int .i64 x1, .int .i64 x2] 141)).alloc (.cells #[.int .i64 y0, .int .i64 y1, .int .i64 y2] 141)) kb (.func (.func 144) #[] #[]) w.heap.size (w.heap.size + 1) (x0, x1, x2) (y0, y1, y2) := by
    refine ⟨Lib.cell?_alloc_some _ (Lib.cell?_alloc_some _ hk), ?_, ?_, ?_, ?_, ?_, ?_⟩ <;> simp
  go_enter Tryz.func183, Tryz.ntmps183
  have HB := Lib.hid hB
  clear hB hk
  go_upto_region 1 with fail
  go_cut [6, 7] from 8 to 13 (fun s6 s7 wx => ∃ p q : Nat, s6 = .pointer (some ⟨p, 0, none⟩) ∧ s7 = .pointer (some ⟨q, 0, none⟩) ∧ Hid (CmpC wx p q (x0, x1, 0) (y0, y1, 0)) ∧ Hid (Grew w wx))
  case first =>
    go_region_held3 (fun w' => w'.cell? ⟨kb, 0, none⟩ = some (.func (.func 144) #[] #[]) ∧ w'.cell? ⟨w.heap.size, 0, none⟩ = some (.int .i64 x0) ∧ w'.cell? ⟨w.heap.size, 1, none⟩ = some (.int .i64 x1) ∧ w'.cell? ⟨w.heap.size, 2, none⟩ = some (.int .i64 x2)
        ∧ w'.cell? ⟨w.heap.size + 1, 0, none⟩ = some (.int .i64 y0) ∧ w'.cell? ⟨w.heap.size + 1, 1, none⟩ = some (.int .i64 y1) ∧ w'.cell? ⟨w.heap.size + 1, 2, none⟩ = some (.int .i64 y2))
      (first | (change CmpG _ kb (.func (.func 144) #[] #[]) w.heap.size (w.heap.size + 1) (x0, x1, x2) (y0, y1, y2); repeat (first | with_reducible exact HB.out | with_reducible apply CmpG.drew | with_reducible apply CmpG.alloc)))
      (first
        | (go_at_call 144; (first | (with_reducible refine (HX.out _).mono ?_) | (with_reducible refine (HY.out _).mono ?_)); rintro r w1 ⟨rfl, rfl⟩))
    all_goals
      go_wp2_with fail
      go_meet
      refine ⟨_, _, rfl, rfl, ?_, ?_⟩
      · refine ⟨?_, ?_, ?_, ?_, ?_, ?_⟩ <;> (repeat (first | (refine (World.cell?_alloc_at _ _ _ _ ?_).trans ?_; (focus (simp; done)); rfl) | with_reducible apply Lib.cell?_alloc_some | with_reducible apply cellDrew))
      · unfold Hid
        repeat (first | with_reducible exact Grew.refl _ | with_reducible apply Grew.drewN | with_reducible apply Grew.drew | with_reducible apply Grew.alloc)
  case rest =>
    obtain ⟨p, q, rfl, rfl, HCC, HG⟩ := hcut
    clear HX HY HB
    obtain ⟨p0, p1, p2, q0, q1, q2⟩ := HCC.out
    have HCC2 := Lib.hid (HC.out p q wc.drew p0 p1 p2 q0 q1 q2)
    clear p0 p1 p2 q0 q1 q2
    go_wp2
    go_region_held3 (fun w' => w' = wc.drew) (first | rfl | assumption) (first | (go_at_call 110; refine HCC2.out.mono ?_; rintro r w1 ⟨rfl, rfl⟩))
    go_wp2
    go_ret
    exact ⟨rfl, HG.out.drew⟩

end Go.Proofs.YtdoaniccefdkaaaGreatDoor
