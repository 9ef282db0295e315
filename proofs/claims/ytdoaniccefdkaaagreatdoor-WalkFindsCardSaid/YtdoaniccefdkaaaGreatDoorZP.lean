/- Part of the proof. No conditions. -/
import Derived.Test.YtdoaniccefdkaaaGreatDoorZO
import Derived.ChangeKeysEq
import Derived.Deep.AppendLies

set_option linter.all false
/- Arrays held against each other; trivetref15.SameTris, SamePairs at one list twice. -/
namespace Go.Proofs.YtdoaniccefdkaaaGreatDoor
open Go.RowKit Go.Maps Go.WideMaps

theorem run_item (a b : Int) (d : Nat) (w : World) : (Op.equalIn (d + 1) 3 (.int .i64 a) (.int .i64 b)).run Tryz.prog w = .ok (a == b) w := run_equalIn_int w d 3 .i64 .i64 a b Tryz.underlying3
theorem run_item9 (a b : Int) (w : World) : (Op.equalIn 9999 3 (.int .i64 a) (.int .i64 b)).run Tryz.prog w = .ok (a == b) w := run_item a b 9998 w
theorem part3_0 (a b c : Int) (w : World) : (part 3 #[.int .i64 a, .int .i64 b, .int .i64 c] 0).run Tryz.prog w = .ok (.int .i64 a) w := by kernel_rfl
theorem part3_1 (a b c : Int) (w : World) : (part 3 #[.int .i64 a, .int .i64 b, .int .i64 c] 1).run Tryz.prog w = .ok (.int .i64 b) w := by kernel_rfl
theorem part3_2 (a b c : Int) (w : World) : (part 3 #[.int .i64 a, .int .i64 b, .int .i64 c] 2).run Tryz.prog w = .ok (.int .i64 c) w := by kernel_rfl
theorem part2_0 (a b : Int) (w : World) : (part 3 #[.int .i64 a, .int .i64 b] 0).run Tryz.prog w = .ok (.int .i64 a) w := by kernel_rfl
theorem part2_1 (a b : Int) (w : World) : (part 3 #[.int .i64 a, .int .i64 b] 1).run Tryz.prog w = .ok (.int .i64 b) w := by kernel_rfl
theorem cells_int : Tryz.prog.cellsOf 3 = 1 := by kernel_rfl

theorem equalT (a b c x y z : Int) (w : World) : (Op.equalIn 10000 45 (.agg #[.int .i64 a, .int .i64 b, .int .i64 c]) (.agg #[.int .i64 x, .int .i64 y, .int .i64 z])).run Tryz.prog w = .ok (a == x && (b == y && c == z)) w := by
  obtain ⟨i0, hi, hz0, hz1, hz2⟩ := info_parts infoInt
  rw [show (10000 : Nat) = 9998 + 1 + 1 from rfl, run_equalIn_array w (9998 + 1) _ _ Tryz.underlying45 hi, cells_int]
  simp only [List.range, List.range.loop, Op.eqItems, Sem.run_bind, Nat.mul_one, part3_0, Result.andThen_ok, run_item]
  cases h1 : a == x <;> cases h2 : b == y <;> cases h3 : c == z <;> simp [part3_1, part3_2, run_item9, h2, h3]
theorem equalP (a b x y : Int) (w : World) : (Op.equalIn 10000 62 (.agg #[.int .i64 a, .int .i64 b]) (.agg #[.int .i64 x, .int .i64 y])).run Tryz.prog w = .ok (a == x && b == y) w := by
  obtain ⟨i0, hi, hz0, hz1, hz2⟩ := info_parts infoInt
  rw [show (10000 : Nat) = 9998 + 1 + 1 from rfl, run_equalIn_array w (9998 + 1) _ _ Tryz.underlying62 hi, cells_int]
  simp only [List.range, List.range.loop, Op.eqItems, Sem.run_bind, Nat.mul_one, part2_0, Result.andThen_ok, run_item]
  cases h1 : a == x <;> cases h2 : b == y <;> simp [part2_1, run_item9, h2]

theorem eqlT (a b c x y z : Int) (w : World) : (binOp .eql 45 (.agg #[.int .i64 a, .int .i64 b, .int .i64 c]) (.agg #[.int .i64 x, .int .i64 y, .int .i64 z])).run Tryz.prog w = .ok (.bool (a == x && (b == y && c == z))) w := by
  rw [run_eql_struct, equalT]; rfl
theorem neqT (a b c x y z : Int) (w : World) : (binOp .neq 45 (.agg #[.int .i64 a, .int .i64 b, .int .i64 c]) (.agg #[.int .i64 x, .int .i64 y, .int .i64 z])).run Tryz.prog w = .ok (.bool !(a == x && (b == y && c == z))) w := by
  rw [run_neq_struct, equalT]; rfl
theorem neqP (a b x y : Int) (w : World) : (binOp .neq 62 (.agg #[.int .i64 a, .int .i64 b]) (.agg #[.int .i64 x, .int .i64 y])).run Tryz.prog w = .ok (.bool !(a == x && b == y)) w := by
  rw [run_neq_struct, equalP]; rfl
theorem neqT_self (a b c : Int) (w : World) : (binOp .neq 45 (.agg #[.int .i64 a, .int .i64 b, .int .i64 c]) (.agg #[.int .i64 a, .int .i64 b, .int .i64 c])).run Tryz.prog w = .ok (.bool false) w := by rw [neqT]; simp
theorem neqP_self (a b : Int) (w : World) : (binOp .neq 62 (.agg #[.int .i64 a, .int .i64 b]) (.agg #[.int .i64 a, .int .i64 b])).run Tryz.prog w = .ok (.bool false) w := by rw [neqP]; simp

theorem MB.from {w0 w1 w : World} {mb n : Nat} {M : MeshM} {F : Nat → Prop} (h : MB w1 w mb n M F) (hb : Below w0.heap.size w0 w1) : MB w0 w mb n M F :=
  ⟨h.at_, fun i hi => Nat.le_trans hb.size (h.new i hi), hb.trans (h.keep.mono hb.size)⟩
theorem MB.flt {w0 w : World} {mb n : Nat} {M : MeshM} {F : Nat → Prop} (h : MB w0 w mb n M F) : ∀ g, F g → g < w.heap.size := h.at_.flt

theorem KCells.tri {w : World} {ad : Option Addr} {l : List Tri3} (h : KCells encT w ad l) {k : Nat} (hk : k < l.length) : ∃ g, ad = some ⟨g, 0, none⟩ ∧ g < w.heap.size ∧
    w.cell? ⟨g, k * 3, none⟩ = some (.int .i64 (l.getD k (0, 0, 0)).1) ∧ w.cell? ⟨g, k * 3 + 1, none⟩ = some (.int .i64 (l.getD k (0, 0, 0)).2.1) ∧ w.cell? ⟨g, k * 3 + 2, none⟩ = some (.int .i64 (l.getD k (0, 0, 0)).2.2) := by
  obtain ⟨g, rfl, hg, hc⟩ := h (by omega)
  have e : l.getD k (0, 0, 0) = l[k] := by rw [List.getD_eq_getElem?_getD, List.getElem?_eq_getElem hk]; rfl
  have a := cellsK_at encT_len l k hk
  refine ⟨g, rfl, hg, hc _ _ ?_, hc _ _ ?_, hc _ _ ?_⟩
  · rw [e]; have := a 0 (by omega); rw [Nat.add_zero] at this; exact this
  · rw [e]; exact a 1 (by omega)
  · rw [e]; exact a 2 (by omega)
theorem KCells.pair {w : World} {ad : Option Addr} {l : List (Int × Int)} (h : KCells encP w ad l) {k : Nat} (hk : k < l.length) : ∃ g, ad = some ⟨g, 0, none⟩ ∧ g < w.heap.size ∧
    w.cell? ⟨g, k * 2, none⟩ = some (.int .i64 (l.getD k (0, 0)).1) ∧ w.cell? ⟨g, k * 2 + 1, none⟩ = some (.int .i64 (l.getD k (0, 0)).2) := by
  obtain ⟨g, rfl, hg, hc⟩ := h (by omega)
  have e : l.getD k (0, 0) = l[k] := by rw [List.getD_eq_getElem?_getD, List.getElem?_eq_getElem hk]; rfl
  have a := cellsK_at encP_len l k hk
  refine ⟨g, rfl, hg, hc _ _ ?_, hc _ _ ?_⟩
  · rw [e]; have := a 0 (by omega); rw [Nat.add_zero] at this; exact this
  · rw [e]; exact a 1 (by omega)

set_option maxRecDepth 100000 in
set_option maxHeartbeats 1000000 in
theorem sameTris_walk (l : List Tri3) (ad bd : Option Addr) (ca cb : Nat) (w : World) (ha : KCells encT w ad l) (hb : KCells encT w bd l) (hl : l.length ≤ 1000000000000) :
    Calls Tryz.prog 21 #[.slice ad l.length ca, .slice bd l.length cb] w fun r w' => r = .returned (.bool true) ∧ Below w.heap.size w w' := by
  have HA := Lib.hid ha
  have HB := Lib.hid hb
  clear ha hb
  go_enter Tryz.func21, Tryz.ntmps21
  go_wp2
  go_loopw [5] (fun s5 wr => ∃ k : Nat, k ≤ l.length ∧ s5 = .int .i64 k ∧ Hid (Below w.heap.size w wr)) (fun i _ => l.length - (intOf i).toNat)
  case atStart => exact ⟨0, Nat.zero_le _, rfl, Below.refl _ _⟩
  case round =>
    obtain ⟨k, hk, rfl, HBW⟩ := hrel
    by_cases hlt : k < l.length
    · obtain ⟨g, rfl, hg, a0, a1, a2⟩ := (HA.out.below HBW.out).tri hlt
      obtain ⟨h, rfl, hh, b0, b1, b2⟩ := (HB.out.below HBW.out).tri hlt
      generalize l.getD k (0, 0, 0) = t at *
      obtain ⟨x, y, z⟩ := t
      dsimp only at a0 a1 a2 b0 b1 b2
      have hq := neqT_self x y z
      go_wp2
      go_region_held3 (fun w' => w' = wr.drew) (first | rfl | assumption) (fail)
      go_wp2
      go_roundw
      case rel => exact ⟨k + 1, by omega, (by first | rfl | rw [wrapS (by omega)]), HBW.out.drew⟩
      case measure => first | (simp [intOf]; omega) | (rw [wrapS (by omega)]; simp [intOf]; omega)
    · have e : k = l.length := by omega
      subst e
      clear hlt hk
      go_wp2
      go_ret
      exact ⟨rfl, HBW.out⟩

set_option maxRecDepth 100000 in
set_option maxHeartbeats 1000000 in
theorem samePairs_walk (l : List (Int × Int)) (ad bd : Option Addr) (ca cb : Nat) (w : World) (ha : KCells encP w ad l) (hb : KCells encP w bd l) (hl : l.length ≤ 1000000000000) :
    Calls Tryz.prog 77 #[.slice ad l.length ca, .slice bd l.length cb] w fun r w' => r = .returned (.bool true) ∧ Below w.heap.size w w' := by
  have HA := Lib.hid ha
  have HB := Lib.hid hb
  clear ha hb
  go_enter Tryz.func77, Tryz.ntmps77
  go_wp2
  go_loopw [5] (fun s5 wr => ∃ k : Nat, k ≤ l.length ∧ s5 = .int .i64 k ∧ Hid (Below w.heap.size w wr)) (fun i _ => l.length - (intOf i).toNat)
  case atStart => exact ⟨0, Nat.zero_le _, rfl, Below.refl _ _⟩
  case round =>
    obtain ⟨k, hk, rfl, HBW⟩ := hrel
    by_cases hlt : k < l.length
    · obtain ⟨g, rfl, hg, a0, a1⟩ := (HA.out.below HBW.out).pair hlt
      obtain ⟨h, rfl, hh, b0, b1⟩ := (HB.out.below HBW.out).pair hlt
      generalize l.getD k (0, 0) = t at *
      obtain ⟨x, y⟩ := t
      dsimp only at a0 a1 b0 b1
      have hq := neqP_self x y
      go_wp2
      go_region_held3 (fun w' => w' = wr.drew) (first | rfl | assumption) (fail)
      go_wp2
      go_roundw
      case rel => exact ⟨k + 1, by omega, (by first | rfl | rw [wrapS (by omega)]), HBW.out.drew⟩
      case measure => first | (simp [intOf]; omega) | (rw [wrapS (by omega)]; simp [intOf]; omega)
    · have e : k = l.length := by omega
      subst e
      clear hlt hk
      go_wp2
      go_ret
      exact ⟨rfl, HBW.out⟩

end Go.Proofs.YtdoaniccefdkaaaGreatDoor

/- (*mesh.Mesh).Fix: the plain law and the walk. -/
namespace Go.Proofs.YtdoaniccefdkaaaGreatDoor
open Go.RowKit Go.Maps Go.WideMaps

def fxM (M : MeshM) (fx' : Int → Int → Option Int) : MeshM := { M with fx := fx' }

theorem fx_parts {w w' : World} {mb ba bs bf n : Nat} {pv : Value} {sv : Int → Option Value} {M : MeshM} {F : Nat → Prop} (h : MeshParts w mb ba bs bf n pv sv M F) {fx' : Int → Int → Option Int} (hf : FMap Tryz.prog w' 117 bf (n + 1) (edgeV fx')) (hg : w.grownBy w' (some bf)) :
    MeshParts w' mb ba bs bf (n + 1) pv sv (fxM M fx') F := by
  have hs : ∀ i, i < w.heap.size → i ≠ bf → w'.heap[i]? = w.heap[i]? := fun i hi hne => hg.block i hi (by simpa using hne)
  have hmb := h.mb_ne h.fxm
  have hc : ∀ i, w'.cell? ⟨mb, i, none⟩ = w.cell? ⟨mb, i, none⟩ := fun i => World.cell?_of_block (hs mb (h.flt _ h.fmb) hmb)
  obtain ⟨es, cl, h2⟩ := h.fxm.isMap
  have hpv : ∀ g, pv.ownBlock = some g → g ≠ bf := by
    intro g hpg e
    subst e
    rcases h.pts.2 with ⟨h1, _⟩ | ⟨g', cap, cur, h1, _, hh, _⟩
    · rw [h1] at hpg; simp [Value.ownBlock] at hpg
    · rw [h1] at hpg; simp [Value.ownBlock] at hpg; subst hpg; rw [hh] at h2; cases h2
  have hrow : ∀ a v g, sv a = some v → v.ownBlock = some g → g ≠ bf := by
    intro a v g hv hvg e
    subst e
    rcases (h.rows.own a v hv).1.2 with ⟨rfl, _⟩ | ⟨g', cap, cur, rfl, _, hh, _⟩
    · simp [Value.ownBlock] at hvg
    · simp [Value.ownBlock] at hvg; subst hvg; rw [hh] at h2; cases h2
  have hcb := h.cb
  exact ⟨(hc 0).trans h.c0, (hc 1).trans h.c1, (hc 2).trans h.c2, (hc 3).trans h.c3, (hc 4).trans h.c4, fun i => (World.frozen?_of_block (hs mb (h.flt _ h.fmb) hmb)).trans (h.fz i),
    ownsRow_same h.pts fun g hg => hs g (h.flt g (h.fpv g hg)) (hpv g hg), (h.apm.mono (Nat.le_succ n)).same (hs ba (h.flt _ h.fba) h.naf), (h.spm.mono (Nat.le_succ n)).same (hs bs (h.flt _ h.fbs) h.nsf), hf,
    ⟨h.rows.none, fun a v hv => ⟨ownsRow_same (h.rows.own a v hv).1 fun g hvg => hs g (h.flt g (h.rows.inF a v g hv hvg).1) (hrow a v g hv hvg), (h.rows.own a v hv).2⟩, h.rows.dis, h.rows.inF⟩,
    h.nab, h.naf, h.nsf, h.npm, h.fmb, h.fba, h.fbs, h.fbf, h.fpv, fun g hF => Nat.lt_of_lt_of_le (h.flt g hF) hg.size, fun a => Nat.le_trans (h.spl a) (Nat.le_succ n), ⟨by show -((n + 1 : Nat) : Int) ≤ M.cnt; omega, by show M.cnt ≤ ((n + 1 : Nat) : Int); omega⟩⟩

set_option maxRecDepth 100000 in
set_option maxHeartbeats 1000000 in
theorem fix_none {w : World} {mb n : Nat} {M : MeshM} {F : Nat → Prop} (h : MeshAt w mb n M F) (a b v : Int) (hx : hasM M a = false ∨ (hasM M a = true ∧ hasM M b = false)) :
    Calls Tryz.prog 33 #[.pointer (some ⟨mb, 0, none⟩), .int .i64 a, .int .i64 b, .int .i64 v] w fun r w' => r = .returned (.int .i64 11) ∧ w' = w := by
  have HA := Lib.hid (has_walk h a)
  have HB := Lib.hid (has_walk h b)
  clear h
  rcases hx with hx | ⟨hx, hy⟩
  · rw [hx] at HA
    clear hx HB
    go_enter Tryz.func33, Tryz.ntmps33
    go_wp2_with (go_at_call 89; refine HA.out.mono ?_; rintro r w1 ⟨rfl, rfl⟩)
    go_ret
    exact ⟨rfl, rfl⟩
  · rw [hx] at HA
    rw [hy] at HB
    clear hx hy
    go_enter Tryz.func33, Tryz.ntmps33
    go_wp2_with (first
      | (go_at_call 89; with_reducible refine HA.out.mono ?_; rintro r w1 ⟨rfl, rfl⟩)
      | (go_at_call 89; with_reducible refine HB.out.mono ?_; rintro r w1 ⟨rfl, rfl⟩))
    go_ret
    exact ⟨rfl, rfl⟩

set_option maxRecDepth 100000 in
set_option maxHeartbeats 1000000 in
theorem fix_same {w : World} {mb n : Nat} {M : MeshM} {F : Nat → Prop} (h : MeshAt w mb n M F) (a v : Int) (hx : hasM M a = true) :
    Calls Tryz.prog 33 #[.pointer (some ⟨mb, 0, none⟩), .int .i64 a, .int .i64 a, .int .i64 v] w fun r w' => r = .returned (.int .i64 1) ∧ w' = w := by
  have HA := Lib.hid (has_walk h a)
  rw [hx] at HA
  clear h hx
  go_enter Tryz.func33, Tryz.ntmps33
  go_wp2_with (go_at_call 89; refine HA.out.mono ?_; rintro r w1 ⟨rfl, rfl⟩)
  go_ret
  exact ⟨rfl, rfl⟩

set_option maxRecDepth 100000 in
set_option maxHeartbeats 2000000 in
theorem fix_ok {w0 w : World} {mb n : Nat} {M : MeshM} {F : Nat → Prop} (h : MB w0 w mb n M F) (hn : n ≤ 1000000000) {a b v : Int} (ha : i64ok a) (hb : i64ok b) (hx : hasM M a = true) (hy : hasM M b = true) (hab : a ≠ b) :
    Calls Tryz.prog 33 #[.pointer (some ⟨mb, 0, none⟩), .int .i64 a, .int .i64 b, .int .i64 v] w fun r w' => r = .returned (.int .i64 0) ∧ MB w0 w' mb (n + 1) (fxM M (upE M.fx (minI a b) (maxI a b) v)) F := by
  have HA := Lib.hid (has_walk h.at_ a)
  have HB := Lib.hid (has_walk h.at_ b)
  rw [hx] at HA
  rw [hy] at HB
  have HN := Lib.hid h.new
  have HKP := Lib.hid h.keep
  obtain ⟨ba, bs, bf, pv, sv, hp⟩ := h.at_
  have n0 : w.drew.cell? ⟨mb, 4, none⟩ = some (.map (some bf)) := hp.c4
  have hne : some mb ≠ some bf := by have := hp.mb_ne hp.fxm; simpa using this
  have HNE := Lib.hid hne
  have HO := Lib.hid (own_walk a b)
  have HP := Lib.hid hp
  have HI := Lib.hid (i64ok_min ha hb)
  have HL := Lib.hid hn
  clear h hp hx hy ha hb hne hn
  generalize minI a b = u at *
  generalize maxI a b = t at *
  unfold kE at HO
  have HST : Hid (∀ w1, FMap Tryz.prog w1 117 bf n (edgeV M.fx) → ∃ w2, (Instr.mapUpdate 113 (.map (some bf)) (.agg #[.int .i64 u, .int .i64 t]) (.int .i64 v)).run Tryz.prog w1 = .ok () w2 ∧ FMap Tryz.prog w2 117 bf (n + 1) (edgeV (upE M.fx u t v)) ∧ w1.grownBy w2 (some bf)) := by
    intro w1 h1
    rw [← edgeV_up]
    exact h1.store edgeLaw Tryz.underlying113 (by have := HL.out; unfold maxLen; omega) (keyE HI.out.1 HI.out.2) (.int .i64 v)
  have HOWN : Hid (Calls Tryz.prog 71 #[.int .i64 a, .int .i64 b] w.drew fun r w1 => r = .returned (.agg #[.int .i64 u, .int .i64 t]) ∧ ∃ w2, Below w.heap.size w w1 ∧ w1.cell? ⟨mb, 4, none⟩ = some (.map (some bf)) ∧ (Instr.mapUpdate 113 (.map (some bf)) (.agg #[.int .i64 u, .int .i64 t]) (.int .i64 v)).run Tryz.prog w1 = .ok () w2 ∧ FMap Tryz.prog w2 117 bf (n + 1) (edgeV (upE M.fx u t v)) ∧ w1.grownBy w2 (some bf) ∧ w2.cell? ⟨mb, 4, none⟩ = some (.map (some bf))) := by
    refine (HO.out w.drew).mono ?_
    rintro r w1 ⟨rfl, hb1⟩
    have b1 : Below w.heap.size w w1 := (Below.refl w.heap.size w).drew.trans hb1
    have hp1 := HP.out.below b1
    obtain ⟨w2, hrun2, hf2, hg2⟩ := HST.out w1 hp1.fxm
    exact ⟨rfl, w2, b1, hp1.c4, hrun2, hf2, hg2, hg2.cell hp1.c4 HNE.out⟩
  go_enter Tryz.func33, Tryz.ntmps33
  go_wp2_with (first
    | (go_at_call 89; with_reducible refine HA.out.mono ?_; rintro r w1 ⟨rfl, rfl⟩)
    | (go_at_call 89; with_reducible refine HB.out.mono ?_; rintro r w1 ⟨rfl, rfl⟩))
  go_region_held3 (fun w' => w'.cell? ⟨mb, 4, none⟩ = some (.map (some bf))) (first | assumption | exact n2 | exact n1)
    (first | (go_at_call 71; refine HOWN.out.mono ?_; rintro r w1 ⟨rfl, w2, b1, n1, hrun2, hf2, hg2, n2⟩))
  all_goals
    have hp1 := HP.out.below b1
    have hp2 := fx_parts hp1 hf2 hg2
    go_wp2
    go_ret
    refine ⟨rfl, ⟨⟨ba, bs, bf, pv, sv, hp2⟩, HN.out, ?_⟩⟩
    refine ⟨hg2.os.trans (b1.os.trans HKP.out.os), hg2.tape.trans (b1.tape.trans HKP.out.tape), hg2.output.trans (b1.output.trans HKP.out.output), Nat.le_trans HKP.out.size (Nat.le_trans b1.size hg2.size), fun i hi => ?_⟩
    rw [hg2.block i (by have := HKP.out.size; have := b1.size; omega) (by have := HN.out bf hp1.fbf; intro e; cases e; omega), b1.block i (by have := HKP.out.size; omega)]
    exact HKP.out.block i hi

end Go.Proofs.YtdoaniccefdkaaaGreatDoor

/- The mesh's methods at a nil receiver. -/
namespace Go.Proofs.YtdoaniccefdkaaaGreatDoor
open Go.RowKit Go.Maps Go.WideMaps

set_option maxRecDepth 100000 in
set_option maxHeartbeats 1000000 in
theorem nil_Add (x y : Nat) (w : World) : Calls Tryz.prog 31 #[.pointer none, .agg #[.float .f64 x, .float .f64 y]] w fun r w' => r = .returned (.tuple #[.int .i64 0, .int .i64 2]) ∧ Below w.heap.size w w' := by
  go_enter Tryz.func31, Tryz.ntmps31
  go_wp2
  go_ret2
  exact ⟨rfl, (Below.refl _ w).alloc (Nat.le_refl _) _⟩

set_option maxRecDepth 100000 in
set_option maxHeartbeats 1000000 in
theorem nil_Apex (a b : Int) (w : World) : Calls Tryz.prog 19 #[.pointer none, .int .i64 a, .int .i64 b] w fun r w' => r = .returned (.tuple #[.int .i64 0, .bool false]) ∧ w' = w := by
  go_enter Tryz.func19, Tryz.ntmps19
  go_wp2
  go_ret2
  exact ⟨rfl, rfl⟩

set_option maxRecDepth 100000 in
set_option maxHeartbeats 1000000 in
theorem nil_Fixed (a b : Int) (w : World) : Calls Tryz.prog 22 #[.pointer none, .int .i64 a, .int .i64 b] w fun r w' => r = .returned (.tuple #[.int .i64 0, .bool false]) ∧ w' = w := by
  go_enter Tryz.func22, Tryz.ntmps22
  go_wp2
  go_ret2
  exact ⟨rfl, rfl⟩

set_option maxRecDepth 100000 in
set_option maxHeartbeats 1000000 in
theorem nil_Make (a b c : Int) (w : World) : Calls Tryz.prog 28 #[.pointer none, .int .i64 a, .int .i64 b, .int .i64 c] w fun r w' => r = .returned (.int .i64 2) ∧ w' = w := by
  go_enter Tryz.func28, Tryz.ntmps28
  go_wp2
  go_ret
  exact ⟨rfl, rfl⟩

set_option maxRecDepth 100000 in
set_option maxHeartbeats 1000000 in
theorem nil_Kill (a b c : Int) (w : World) : Calls Tryz.prog 29 #[.pointer none, .int .i64 a, .int .i64 b, .int .i64 c] w fun r w' => r = .returned (.int .i64 2) ∧ w' = w := by
  go_enter Tryz.func29, Tryz.ntmps29
  go_wp2
  go_ret
  exact ⟨rfl, rfl⟩

set_option maxRecDepth 100000 in
set_option maxHeartbeats 1000000 in
theorem nil_Fix (a b c : Int) (w : World) : Calls Tryz.prog 33 #[.pointer none, .int .i64 a, .int .i64 b, .int .i64 c] w fun r w' => r = .returned (.int .i64 2) ∧ w' = w := by
  go_enter Tryz.func33, Tryz.ntmps33
  go_wp2
  go_ret
  exact ⟨rfl, rfl⟩

set_option maxRecDepth 100000 in
set_option maxHeartbeats 1000000 in
theorem nil_Copy  (w : World) : Calls Tryz.prog 37 #[.pointer none] w fun r w' => r = .returned (.pointer none) ∧ w' = w := by
  go_enter Tryz.func37, Tryz.ntmps37
  go_wp2
  go_ret
  exact ⟨rfl, rfl⟩

set_option maxRecDepth 100000 in
set_option maxHeartbeats 1000000 in
theorem nil_Len  (w : World) : Calls Tryz.prog 47 #[.pointer none] w fun r w' => r = .returned (.int .i64 0) ∧ w' = w := by
  go_enter Tryz.func47, Tryz.ntmps47
  go_wp2
  go_ret
  exact ⟨rfl, rfl⟩

set_option maxRecDepth 100000 in
set_option maxHeartbeats 1000000 in
theorem nil_Count  (w : World) : Calls Tryz.prog 61 #[.pointer none] w fun r w' => r = .returned (.int .i64 0) ∧ w' = w := by
  go_enter Tryz.func61, Tryz.ntmps61
  go_wp2
  go_ret
  exact ⟨rfl, rfl⟩

set_option maxRecDepth 100000 in
set_option maxHeartbeats 1000000 in
theorem nil_Points  (w : World) : Calls Tryz.prog 75 #[.pointer none] w fun r w' => r = .returned (.slice none 0 0) ∧ w' = w := by
  go_enter Tryz.func75, Tryz.ntmps75
  go_wp2
  go_ret
  exact ⟨rfl, rfl⟩

set_option maxRecDepth 100000 in
set_option maxHeartbeats 1000000 in
theorem nil_Tris  (w : World) : Calls Tryz.prog 18 #[.pointer none] w fun r w' => r = .returned (.slice none 0 0) ∧ w' = w := by
  go_enter Tryz.func18, Tryz.ntmps18
  go_wp2
  go_ret
  exact ⟨rfl, rfl⟩

set_option maxRecDepth 100000 in
set_option maxHeartbeats 1000000 in
theorem nil_Edges  (w : World) : Calls Tryz.prog 78 #[.pointer none] w fun r w' => r = .returned (.slice none 0 0) ∧ w' = w := by
  go_enter Tryz.func78, Tryz.ntmps78
  go_wp2
  go_ret
  exact ⟨rfl, rfl⟩

set_option maxRecDepth 100000 in
set_option maxHeartbeats 1000000 in
theorem nil_Border  (w : World) : Calls Tryz.prog 46 #[.pointer none] w fun r w' => r = .returned (.slice none 0 0) ∧ w' = w := by
  go_enter Tryz.func46, Tryz.ntmps46
  go_wp2
  go_ret
  exact ⟨rfl, rfl⟩

set_option maxRecDepth 100000 in
set_option maxHeartbeats 1000000 in
theorem nil_Spokes (a : Int) (w : World) : Calls Tryz.prog 84 #[.pointer none, .int .i64 a] w fun r w' => r = .returned (.slice none 0 0) ∧ w' = w := by
  go_enter Tryz.func84, Tryz.ntmps84
  go_wp2
  go_ret
  exact ⟨rfl, rfl⟩

set_option maxRecDepth 100000 in
set_option maxHeartbeats 1000000 in
theorem nil_Fixes  (w : World) : Calls Tryz.prog 82 #[.pointer none] w fun r w' => r = .returned (.slice none 0 0) ∧ w' = w := by
  go_enter Tryz.func82, Tryz.ntmps82
  go_wp2
  go_ret
  exact ⟨rfl, rfl⟩

set_option maxRecDepth 100000 in
set_option maxHeartbeats 1000000 in
theorem nil_Loose (a b : Int) (w : World) : Calls Tryz.prog 35 #[.pointer none, .int .i64 a, .int .i64 b] w fun r w' => r = .returned (.bool false) ∧ w' = w := by
  have HF := Lib.hid (nil_Fixed a b w)
  go_enter Tryz.func35, Tryz.ntmps35
  go_wp2_with (go_at_call 22; refine HF.out.mono ?_; rintro r w1 ⟨rfl, rfl⟩)
  go_ret
  exact ⟨rfl, rfl⟩

end Go.Proofs.YtdoaniccefdkaaaGreatDoor

/- A step law for the builtin delete in a drawn region; Point at a nil receiver. -/
namespace Go.Proofs.YtdoaniccefdkaaaGreatDoor
open Go.RowKit Go.Maps Go.WideMaps

theorem step_delete {P : Program} {w : World} {ops : Array Oper} {o : Oper} {a : Act} {K : Act → World → Prop} {Q : Exit → Act → World → Prop} {E : Prop} (hgd : o.guard = none) (m x : Operand) (t k : TypeId)
    (hop : o.op = Op.call { callee := Callee.builtin Builtin.delete, args := #[m, x], argTypes := #[t, k] }) (e : TypeId) (KK : Keyed P k) (ht : P.underlying t = some (.map k e))
    (b n : Nat) (f : Value → Option Value) (hm : a.eval m = .map (some b)) (h : FMap P w k b n f) (key : Value) (hx : a.eval x = key) (kl : Lit) (hkey : keyOf P k key = some kl)
    (hK : ∀ w', FMap P w' k b n (delV f key) → w.grownBy w' (some b) → K (a.put o.dst (.tuple #[])) w') :
    if Region.wanted o (yielded ops a.tmps) = true then Oper.wp P o a w K Q else E := by
  have hw : Region.wanted o (yielded ops a.tmps) = true := by simp [Region.wanted, hgd]
  rw [if_pos hw]
  obtain ⟨D, hown, hD⟩ := h
  obtain ⟨w', hrun, r1, r2⟩ := hown.drop KK ht hkey o.type
  unfold Oper.wp
  simp [execOp, hop, resolve, invoke, builtin, hm, hx, hrun, Result.andThen]
  exact hK w' ⟨_, r1, hD.del KK hkey⟩ r2.grown

set_option maxRecDepth 100000 in
set_option maxHeartbeats 1000000 in
theorem nil_has (i : Int) (w : World) : Calls Tryz.prog 89 #[.pointer none, .int .i64 i] w fun r w' => r = .returned (.bool false) ∧ w' = w := by
  have HL := Lib.hid (nil_Len w)
  by_cases h : 0 ≤ i
  all_goals
    go_enter Tryz.func89, Tryz.ntmps89
    go_wp2_with (go_at_call 47; refine HL.out.mono ?_; rintro r w1 ⟨rfl, rfl⟩)
    go_ret
    first | exact ⟨rfl, rfl⟩ | (refine ⟨?_, rfl⟩; simp; omega)

set_option maxRecDepth 100000 in
set_option maxHeartbeats 2000000 in
theorem loose_ok {w0 w : World} {mb n : Nat} {M : MeshM} {F : Nat → Prop} (h : MB w0 w mb n M F) {a b c : Int} (ha : i64ok a) (hb : i64ok b) (hx : M.fx (minI a b) (maxI a b) = some c) :
    Calls Tryz.prog 35 #[.pointer (some ⟨mb, 0, none⟩), .int .i64 a, .int .i64 b] w fun r w' => r = .returned (.bool true) ∧ MB w0 w' mb (n + 1) (fxM M (delE M.fx (minI a b) (maxI a b))) F := by
  have HFX := Lib.hid (fixed_walk h.at_ ha hb)
  rw [hx] at HFX
  simp only [Option.getD_some, Option.isSome_some] at HFX
  have HN := Lib.hid h.new
  have HKP := Lib.hid h.keep
  obtain ⟨ba, bs, bf, pv, sv, hp⟩ := h.at_
  have hne : some mb ≠ some bf := by have := hp.mb_ne hp.fxm; simpa using this
  have HNE := Lib.hid hne
  have HP := Lib.hid hp
  have HI := Lib.hid (i64ok_min ha hb)
  have HO := Lib.hid (own_walk a b)
  clear h hp hx ha hb hne
  generalize minI a b = u at *
  generalize maxI a b = t at *
  have HKEY := Lib.hid (keyE HI.out.1 HI.out.2)
  unfold kE at HO HKEY
  have HOWN : Hid (∀ w2, Below w.heap.size w w2 → Calls Tryz.prog 71 #[.int .i64 a, .int .i64 b] w2.drew fun r w1 => r = .returned (.agg #[.int .i64 u, .int .i64 t]) ∧ Below w.heap.size w w1 ∧ w1.cell? ⟨mb, 4, none⟩ = some (.map (some bf)) ∧ FMap Tryz.prog w1 117 bf n (edgeV M.fx)) := by
    intro w2 hb2
    refine (HO.out w2.drew).mono ?_
    rintro r w1 ⟨rfl, hb1⟩
    have b1 : Below w.heap.size w w1 := hb2.drew.trans (Below.mono (w := w2.drew) hb1 hb2.size)
    exact ⟨rfl, b1, (HP.out.below b1).c4, (HP.out.below b1).fxm⟩
  go_enter Tryz.func35, Tryz.ntmps35
  go_wp2_with (go_at_call 22; refine HFX.out.mono ?_; rintro r w3 ⟨rfl, hb3⟩)
  have n0 : w3.drew.cell? ⟨mb, 4, none⟩ = some (.map (some bf)) := (HP.out.below hb3).c4
  go_region_held3 (fun w' => w'.cell? ⟨mb, 4, none⟩ = some (.map (some bf))) (first | assumption | exact n2 | exact n1)
    (first
      | (go_at_call 71; refine (HOWN.out _ hb3).mono ?_; rintro r w1 ⟨rfl, b1, n1, hf1⟩)
      | (refine step_delete rfl _ _ 113 117 rfl 3 edgeLaw Tryz.underlying113 bf n (edgeV M.fx) rfl hf1 _ rfl _ HKEY.out ?_
         intro w2 hf2 hg2
         have n2 := hg2.cell n1 HNE.out))
  all_goals
    have hf3 : FMap Tryz.prog w2 117 bf (n + 1) (edgeV (delE M.fx u t)) := by rw [← edgeV_del]; exact hf2.mono (Nat.le_succ n)
    have hp1 := HP.out.below b1
    have hp2 := fx_parts hp1 hf3 hg2
    go_wp2
    go_ret
    refine ⟨rfl, ⟨⟨ba, bs, bf, pv, sv, hp2⟩, HN.out, ?_⟩⟩
    refine ⟨hg2.os.trans (b1.os.trans HKP.out.os), hg2.tape.trans (b1.tape.trans HKP.out.tape), hg2.output.trans (b1.output.trans HKP.out.output), Nat.le_trans HKP.out.size (Nat.le_trans b1.size hg2.size), fun i hi => ?_⟩
    rw [hg2.block i (by have := HKP.out.size; have := b1.size; omega) (by have := HN.out bf hp1.fbf; intro e; cases e; omega), b1.block i (by have := HKP.out.size; omega)]
    exact HKP.out.block i hi

end Go.Proofs.YtdoaniccefdkaaaGreatDoor

/- Loose where nothing is marked; Point at a nil receiver. -/
namespace Go.Proofs.YtdoaniccefdkaaaGreatDoor
open Go.RowKit Go.Maps Go.WideMaps

set_option maxRecDepth 100000 in
set_option maxHeartbeats 2000000 in
theorem loose_no {w0 w : World} {mb n : Nat} {M : MeshM} {F : Nat → Prop} (h : MB w0 w mb n M F) {a b : Int} (ha : i64ok a) (hb : i64ok b) (hx : M.fx (minI a b) (maxI a b) = none) :
    Calls Tryz.prog 35 #[.pointer (some ⟨mb, 0, none⟩), .int .i64 a, .int .i64 b] w fun r w' => r = .returned (.bool false) ∧ MB w0 w' mb n M F := by
  have HFX := Lib.hid (fixed_walk h.at_ ha hb)
  rw [hx] at HFX
  simp only [Option.getD_none, Option.isSome_none] at HFX
  have HM := Lib.hid h
  clear h hx ha hb
  go_enter Tryz.func35, Tryz.ntmps35
  go_wp2_with (go_at_call 22; refine HFX.out.mono ?_; rintro r w3 ⟨rfl, hb3⟩)
  go_ret
  exact ⟨rfl, HM.out.below hb3⟩

set_option maxRecDepth 100000 in
set_option maxHeartbeats 1000000 in
theorem nil_Point (i : Int) (w : World) : Calls Tryz.prog 48 #[.pointer none, .int .i64 i] w fun r w' => r = .returned (.tuple #[.agg #[.float .f64 0, .float .f64 0], .bool false]) ∧ Below w.heap.size w w' := by
  have HH := Lib.hid (nil_has i)
  go_enter Tryz.func48, Tryz.ntmps48
  go_wp2_with (go_at_call 89; refine (HH.out _).mono ?_; rintro r w1 ⟨rfl, rfl⟩)
  go_returns
  exact ⟨rfl, (Below.refl _ _).alloc (Nat.le_refl _) _⟩

end Go.Proofs.YtdoaniccefdkaaaGreatDoor
