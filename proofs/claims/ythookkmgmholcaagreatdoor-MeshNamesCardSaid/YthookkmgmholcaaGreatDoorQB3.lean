/- A step law for the builtin delete in a drawn region; Point at a nil receiver. -/
import Derived.Test.YthookkmgmholcaaGreatDoorQB1
import Derived.Test.YthookkmgmholcaaGreatDoorQB2
import Derived.Deep.AppendLies
namespace Go.Proofs.YthookkmgmholcaaGreatDoor
open Go.RowKit Go.Maps Go.WideMaps

theorem step_delete {P : Program} {w : World} {ops : Array Oper} {o : Oper} {a : Act} {K : Act → World → Prop} {Q : Exit → Act → World → Prop} {E : Prop} (hgd : o.guard = none) (m x : Operand) (t k : TypeId)
    (hop : o.op = Op.call { callee := Callee.builtin Builtin.delete, args := #[m, x], argTypes := #[t, k] }) (e : TypeId) (KK : Keyed P k) (ht : P.underlying t = some (.map k e))
    (b n : Nat) (f : Value → Option Value) (hm : a.eval m = .map (some b)) (h : FMap P w k b n f) (key : Value) (hx : a.eval x = key) (kl : Lit) (hkey : keyOf P k key = some kl)
    (hK : ∀ w', FMap P w' k b n (delV f key) → w.grownBy w' (some b) → K (a.put o.dst (.tuple #[])) w') :
    if Region.wanted o (yielded ops a.tmps) = true then Oper.wp P o a w K Q else E := by
  have hw : Region.wanted o (yielded ops a.tmps) = true := by simp [Region.wanted, hgd]
  rw [if_pos hw]
  obtain ⟨D, hown, hD⟩ := h
  obtain ⟨w', hrun, r1, r2⟩ := hown.drop KK ht hkey o.type
  unfold Oper.wp
  simp [execOp, hop, resolve, invoke, builtin, hm, hx, hrun, Result.andThen]
  exact hK w' ⟨_, r1, hD.del KK hkey⟩ r2.grown

set_option maxRecDepth 100000 in
set_option maxHeartbeats 1000000 in
theorem nil_has (i : Int) (w : World) : Calls Tryz.prog 61 #[.pointer none, .int .i64 i] w fun r w' => r = .returned (.bool false) ∧ w' = w := by
  have HL := Lib.hid (nil_Len w)
  by_cases h : 0 ≤ i
  all_goals
    go_enter Tryz.func61, Tryz.ntmps61
    go_wp2_with (go_at_call 60; refine HL.out.mono ?_; rintro r w1 ⟨rfl, rfl⟩)
    go_ret
    first | exact ⟨rfl, rfl⟩ | (refine ⟨?_, rfl⟩; simp; omega)

set_option maxRecDepth 100000 in
set_option maxHeartbeats 2000000 in
theorem loose_ok {w0 w : World} {mb n : Nat} {M : MeshM} {F : Nat → Prop} (h : MB w0 w mb n M F) {a b c : Int} (ha : i64ok a) (hb : i64ok b) (hx : M.fx (minI a b) (maxI a b) = some c) :
    Calls Tryz.prog 53 #[.pointer (some ⟨mb, 0, none⟩), .int .i64 a, .int .i64 b] w fun r w' => r = .returned (.bool true) ∧ MB w0 w' mb (n + 1) (fxM M (delE M.fx (minI a b) (maxI a b))) F := by
  have HFX := Lib.hid (fixed_walk h.at_ ha hb)
  rw [hx] at HFX
  simp only [Option.getD_some, Option.isSome_some] at HFX
  have HN := Lib.hid h.new
  have HKP := Lib.hid h.keep
  obtain ⟨ba, bs, bf, pv, sv, hp⟩ := h.at_
  have hne : some mb ≠ some bf := by have := hp.mb_ne hp.fxm; simpa using this
  have HNE := Lib.hid hne
  have HP := Lib.hid hp
  have HI := Lib.hid (i64ok_min ha hb)
  have HO := Lib.hid (own_walk a b)
  clear h hp hx ha hb hne
  generalize minI a b = u at *
  generalize maxI a b = t at *
  have HKEY := Lib.hid (keyE HI.out.1 HI.out.2)
  unfold kE at HO HKEY
  have HOWN : Hid (∀ w2, Below w.heap.size w w2 → Calls Tryz.prog 62 #[.int .i64 a, .int .i64 b] w2.drew fun r w1 => r = .returned (.agg #[.int .i64 u, .int .i64 t]) ∧ Below w.heap.size w w1 ∧ w1.cell? ⟨mb, 4, none⟩ = some (.map (some bf)) ∧ FMap Tryz.prog w1 94 bf n (edgeV M.fx)) := by
    intro w2 hb2
    refine (HO.out w2.drew).mono ?_
    rintro r w1 ⟨rfl, hb1⟩
    have b1 : Below w.heap.size w w1 := hb2.drew.trans (Below.mono (w := w2.drew) hb1 hb2.size)
    exact ⟨rfl, b1, (HP.out.below b1).c4, (HP.out.below b1).fxm⟩
  go_enter Tryz.func53, Tryz.ntmps53
  go_wp2_with (go_at_call 26; refine HFX.out.mono ?_; rintro r w3 ⟨rfl, hb3⟩)
  have n0 : w3.drew.cell? ⟨mb, 4, none⟩ = some (.map (some bf)) := (HP.out.below hb3).c4
  go_region_held3 (fun w' => w'.cell? ⟨mb, 4, none⟩ = some (.map (some bf))) (first | assumption | exact n2 | exact n1)
    (first
      | (go_at_call 62; refine (HOWN.out _ hb3).mono ?_; rintro r w1 ⟨rfl, b1, n1, hf1⟩)
      | (refine step_delete rfl _ _ 90 94 rfl 3 edgeLaw Tryz.underlying90 bf n (edgeV M.fx) rfl hf1 _ rfl _ HKEY.out ?_
         intro w2 hf2 hg2
         have n2 := hg2.cell n1 HNE.out))
  all_goals
    have hf3 : FMap Tryz.prog w2 94 bf (n + 1) (edgeV (delE M.fx u t)) := by rw [← edgeV_del]; exact hf2.mono (Nat.le_succ n)
    have hp1 := HP.out.below b1
    have hp2 := fx_parts hp1 hf3 hg2
    go_wp2
    go_ret
    refine ⟨rfl, ⟨⟨ba, bs, bf, pv, sv, hp2⟩, HN.out, ?_⟩⟩
    refine ⟨hg2.os.trans (b1.os.trans HKP.out.os), hg2.tape.trans (b1.tape.trans HKP.out.tape), hg2.output.trans (b1.output.trans HKP.out.output), Nat.le_trans HKP.out.size (Nat.le_trans b1.size hg2.size), fun i hi => ?_⟩
    rw [hg2.block i (by have := HKP.out.size; have := b1.size; omega) (by have := HN.out bf hp1.fbf; intro e; cases e; omega), b1.block i (by have := HKP.out.size; omega)]
    exact HKP.out.block i hi

end Go.Proofs.YthookkmgmholcaaGreatDoor
