/- Part of the proof. No conditions. -/
import Derived.Test.YtdoaniccefdkaaaGreatDoorZF
import Derived.Test.YtdoaniccefdkaaaGreatDoorZL
import Derived.Test.YtdoaniccefdkaaaGreatDoorZW

set_option linter.all false
/- (*mesh.Mesh).Fix, whatever it is handed; what else lies in memory stays. -/
namespace Go.Proofs.YtdoaniccefdkaaaGreatDoor
open Go.RowKit Go.Maps Go.WideMaps

set_option maxRecDepth 100000 in
set_option maxHeartbeats 2000000 in
theorem fix_ok2 {w0 w : World} {mb n : Nat} {M : MeshM} {F : Nat → Prop} (h : MB w0 w mb n M F) (hn : n ≤ 1000000000) {a b v : Int} (ha : i64ok a) (hb : i64ok b) (hx : hasM M a = true) (hy : hasM M b = true) (hab : a ≠ b) :
    Calls Tryz.prog 33 #[.pointer (some ⟨mb, 0, none⟩), .int .i64 a, .int .i64 b, .int .i64 v] w fun r w' => r = .returned (.int .i64 0) ∧ MB w0 w' mb (n + 1) (fxM M (upE M.fx (minI a b) (maxI a b) v)) F ∧ Stay F w w' := by
  have HA := Lib.hid (has_walk h.at_ a)
  have HB := Lib.hid (has_walk h.at_ b)
  rw [hx] at HA
  rw [hy] at HB
  have HN := Lib.hid h.new
  have HKP := Lib.hid h.keep
  obtain ⟨ba, bs, bf, pv, sv, hp⟩ := h.at_
  have n0 : w.drew.cell? ⟨mb, 4, none⟩ = some (.map (some bf)) := hp.c4
  have hne : some mb ≠ some bf := by have := hp.mb_ne hp.fxm; simpa using this
  have HNE := Lib.hid hne
  have HO := Lib.hid (own_walk a b)
  have HP := Lib.hid hp
  have HI := Lib.hid (i64ok_min ha hb)
  have HL := Lib.hid hn
  clear h hp hx hy ha hb hne hn
  generalize minI a b = u at *
  generalize maxI a b = t at *
  unfold kE at HO
  have HST : Hid (∀ w1, FMap Tryz.prog w1 117 bf n (edgeV M.fx) → ∃ w2, (Instr.mapUpdate 113 (.map (some bf)) (.agg #[.int .i64 u, .int .i64 t]) (.int .i64 v)).run Tryz.prog w1 = .ok () w2 ∧ FMap Tryz.prog w2 117 bf (n + 1) (edgeV (upE M.fx u t v)) ∧ w1.grownBy w2 (some bf)) := by
    intro w1 h1
    rw [← edgeV_up]
    exact h1.store edgeLaw Tryz.underlying113 (by have := HL.out; unfold maxLen; omega) (keyE HI.out.1 HI.out.2) (.int .i64 v)
  have HOWN : Hid (Calls Tryz.prog 71 #[.int .i64 a, .int .i64 b] w.drew fun r w1 => r = .returned (.agg #[.int .i64 u, .int .i64 t]) ∧ ∃ w2, Below w.heap.size w w1 ∧ w1.cell? ⟨mb, 4, none⟩ = some (.map (some bf)) ∧ (Instr.mapUpdate 113 (.map (some bf)) (.agg #[.int .i64 u, .int .i64 t]) (.int .i64 v)).run Tryz.prog w1 = .ok () w2 ∧ FMap Tryz.prog w2 117 bf (n + 1) (edgeV (upE M.fx u t v)) ∧ w1.grownBy w2 (some bf) ∧ w2.cell? ⟨mb, 4, none⟩ = some (.map (some bf))) := by
    refine (HO.out w.drew).mono ?_
    rintro r w1 ⟨rfl, hb1⟩
    have b1 : Below w.heap.size w w1 := (Below.refl w.heap.size w).drew.trans hb1
    have hp1 := HP.out.below b1
    obtain ⟨w2, hrun2, hf2, hg2⟩ := HST.out w1 hp1.fxm
    exact ⟨rfl, w2, b1, hp1.c4, hrun2, hf2, hg2, hg2.cell hp1.c4 HNE.out⟩
  go_enter Tryz.func33, Tryz.ntmps33
  go_wp2_with (first
    | (go_at_call 89; with_reducible refine HA.out.mono ?_; rintro r w1 ⟨rfl, rfl⟩)
    | (go_at_call 89; with_reducible refine HB.out.mono ?_; rintro r w1 ⟨rfl, rfl⟩))
  go_region_held3 (fun w' => w'.cell? ⟨mb, 4, none⟩ = some (.map (some bf))) (first | assumption | exact n2 | exact n1)
    (first | (go_at_call 71; refine HOWN.out.mono ?_; rintro r w1 ⟨rfl, w2, b1, n1, hrun2, hf2, hg2, n2⟩))
  all_goals
    have hp1 := HP.out.below b1
    have hp2 := fx_parts hp1 hf2 hg2
    go_wp2
    go_ret
    refine ⟨rfl, ⟨⟨ba, bs, bf, pv, sv, hp2⟩, HN.out, ?_⟩, (Stay.of_below b1).trans (Stay.of_grown hg2 (fun j e => .inl (by cases e; exact hp1.fbf)))⟩
    refine ⟨hg2.os.trans (b1.os.trans HKP.out.os), hg2.tape.trans (b1.tape.trans HKP.out.tape), hg2.output.trans (b1.output.trans HKP.out.output), Nat.le_trans HKP.out.size (Nat.le_trans b1.size hg2.size), fun i hi => ?_⟩
    rw [hg2.block i (by have := HKP.out.size; have := b1.size; omega) (by have := HN.out bf hp1.fbf; intro e; cases e; omega), b1.block i (by have := HKP.out.size; omega)]
    exact HKP.out.block i hi

/-- Fix, whatever it is handed -/
theorem fix_any {w0 w : World} {mb n : Nat} {M : MeshM} {F : Nat → Prop} (h : MB w0 w mb n M F) (hn : n ≤ 1000000000) {a b : Int} (v : Int) (ha : i64ok a) (hb : i64ok b) :
    Calls Tryz.prog 33 #[.pointer (some ⟨mb, 0, none⟩), .int .i64 a, .int .i64 b, .int .i64 v] w fun r w' => ∃ (k : Int) (n' : Nat) (f : Int → Int → Option Int), r = .returned (.int .i64 k) ∧ n' ≤ n + 1 ∧ MB w0 w' mb n' (fxM M f) F ∧ Stay F w w' := by
  by_cases hx : hasM M a = true
  · by_cases hy : hasM M b = true
    · by_cases hab : a = b
      · subst hab
        refine (fix_same h.at_ a v hx).mono ?_
        rintro r w' ⟨rfl, rfl⟩
        exact ⟨_, n, M.fx, rfl, Nat.le_succ _, h, Stay.refl _ _⟩
      · refine (fix_ok2 h hn ha hb hx hy hab).mono ?_
        rintro r w' ⟨rfl, h1, h2⟩
        exact ⟨_, n + 1, _, rfl, Nat.le_refl _, h1, h2⟩
    · refine (fix_none h.at_ a b v (.inr ⟨hx, by simpa using hy⟩)).mono ?_
      rintro r w' ⟨rfl, rfl⟩
      exact ⟨_, n, M.fx, rfl, Nat.le_succ _, h, Stay.refl _ _⟩
  · refine (fix_none h.at_ a b v (.inl (by simpa using hx))).mono ?_
    rintro r w' ⟨rfl, rfl⟩
    exact ⟨_, n, M.fx, rfl, Nat.le_succ _, h, Stay.refl _ _⟩

end Go.Proofs.YtdoaniccefdkaaaGreatDoor

/- A mesh and the document's, side by side. -/
namespace Go.Proofs.YtdoaniccefdkaaaGreatDoor
open Go.RowKit Tvf Go.Maps Go.WideMaps

theorem RM.lt {w : World} {B xb : Nat} {P : List Pt} {T : List Tri3} {S : List Seg3} {R : Nat → Prop} (h : RM w B xb P T S R) : ∀ i, R i → i < w.heap.size := by
  obtain ⟨ad, cap, vT, vS, _, _, h3⟩ := h
  exact h3
theorem fxM_sound15 {M : MeshM} (h : Sound M) (f : Int → Int → Option Int) : Sound (fxM M f) := ⟨h.rot, h.win, h.sgn, h.cnt, h.sp⟩

structure BO (w wr : World) (l : List Pt) (mb xb nm nt ns : Nat) (B n : Nat) (M : MeshM) (F : Nat → Prop) (T : List Tri3) (S : List Seg3) (R : Nat → Prop) : Prop where
  m : MB w wr mb n M F
  x : RM wr B xb l T S R
  sd : Sound M
  P : M.P = l
  hn : n ≤ nm
  ht : T.length ≤ nt
  hs : S.length ≤ ns
  off : ∀ i, R i → ¬F i
  new : ∀ i, R i → w.heap.size ≤ i
/-- both meshes, made since w; counts bounded -/
def BOx (w wr : World) (l : List Pt) (mb xb nm nt ns : Nat) : Prop := ∃ B n M F T S R, BO w wr l mb xb nm nt ns B n M F T S R

section
variable {w wr w' : World} {l : List Pt} {mb xb nm nt ns nm' nt' ns' : Nat}
theorem BOx.keep (h : BOx w wr l mb xb nm nt ns) : Below w.heap.size w wr := by obtain ⟨B, n, M, F, T, S, R, H⟩ := h; exact H.m.keep
theorem BOx.below (h : BOx w wr l mb xb nm nt ns) (hb : Below wr.heap.size wr w') : BOx w w' l mb xb nm nt ns := by
  obtain ⟨B, n, M, F, T, S, R, H⟩ := h
  exact ⟨B, n, M, F, T, S, R, H.m.below hb, H.x.below hb, H.sd, H.P, H.hn, H.ht, H.hs, H.off, H.new⟩
theorem BOx.drew (h : BOx w wr l mb xb nm nt ns) : BOx w wr.drew l mb xb nm nt ns := h.below (Below.refl _ _).drew

theorem BO.turn_x {B n : Nat} {M : MeshM} {F : Nat → Prop} {T T' : List Tri3} {S S' : List Seg3} {R : Nat → Prop} (H : BO w wr l mb xb nm nt ns B n M F T S R) (hst : Stay R wr w') (hx : RM w' B xb l T' S' (Fx R wr w')) (h1 : T'.length ≤ nt') (h2 : S'.length ≤ ns') : BO w w' l mb xb nm nt' ns' B n M F T' S' (Fx R wr w') := by
  have hk : Below w.heap.size w w' := ⟨hst.os.trans H.m.keep.os, hst.tape.trans H.m.keep.tape, hst.output.trans H.m.keep.output, Nat.le_trans H.m.keep.size hst.size, fun i hi => (hst.block i (Nat.lt_of_lt_of_le hi H.m.keep.size) (fun e => by have := H.new i e; omega)).trans (H.m.keep.block i hi)⟩
  refine ⟨H.m.apart hst hk (fun i hi e => H.off i e hi), hx, H.sd, H.P, H.hn, h1, h2, fun i hi e => ?_, fun i hi => ?_⟩
  · rcases hi with hi | hi
    · exact H.off i hi e
    · have := H.m.at_.flt i e; omega
  · rcases hi with hi | hi
    · exact H.new i hi
    · exact Nat.le_trans H.m.keep.size hi.1

theorem BOx.make_m (h : BOx w wr l mb xb nm nt ns) (h64 : ∀ p, p ∈ l → pt64 p) (hl : l.length ≤ 1048576) (hb : nm ≤ 1000000) (a b c : Int) :
    Calls Tryz.prog 28 #[.pointer (some ⟨mb, 0, none⟩), .int .i64 a, .int .i64 b, .int .i64 c] wr fun r w' => (∃ k : Int, r = .returned (.int .i64 k)) ∧ Hid (BOx w w' l mb xb (nm + 3) nt ns) := by
  obtain ⟨B, n, M, F, T, S, R, H⟩ := h
  have hn := H.hn
  refine (make_mb H.m (by rw [H.P]; exact h64) (by rw [H.P]; exact hl) (by omega) a b c).mono ?_
  rintro r w' ⟨rfl, h1, h2⟩
  refine ⟨⟨_, rfl⟩, B, n + 3, _, _, T, S, R, h1, H.x.stay h2 H.off, makeR_sound H.sd _ _ _, (makeR_P _ _ _ _).trans H.P, by omega, H.ht, H.hs, fun i hi e => e.elim (H.off i hi) (fun e => by have := H.x.lt i hi; omega), H.new⟩

theorem BOx.make_x (h : BOx w wr l mb xb nm nt ns) (h64 : ∀ p, p ∈ l → pt64 p) (hb : nt ≤ 1000000) (a b c : Int) :
    Calls Tryz.prog 25 #[.pointer (some ⟨xb, 0, none⟩), .int .i64 a, .int .i64 b, .int .i64 c] wr fun r w' => (∃ k : Int, r = .returned (.int .i64 k)) ∧ Hid (BOx w w' l mb xb nm (nt + 1) ns) := by
  obtain ⟨B, n, M, F, T, S, R, H⟩ := h
  obtain ⟨ad, cap, vT, vS, h1, h2, h3⟩ := H.x
  have ht := H.ht
  refine (make15s h1 h64 (by omega) a b c).mono ?_
  rintro r w' ⟨rfl, vT', k1, k2, k3⟩
  have hst : Stay R wr w' := k2.mono h2
  refine ⟨⟨_, rfl⟩, B, n, M, F, _, S, _, H.turn_x hst ⟨ad, cap, vT', vS, k1, fun i hi => ?_, fun i hi => ?_⟩ ?_ H.hs⟩
  · rcases hi with hi | hi | hi | hi
    · exact .inl (h2 i (.inl hi))
    · exact .inl (h2 i (.inr (.inl hi)))
    · rcases k3 i hi with e | e
      · exact .inl (h2 i (.inr (.inr (.inl e))))
      · exact .inr ⟨e, (k1.tri.lt i hi).2⟩
    · exact .inl (h2 i (.inr (.inr (.inr hi))))
  · rcases hi with hi | hi
    · exact Nat.lt_of_lt_of_le (h3 i hi) hst.size
    · exact hi.2
  · unfold mkR
    split
    · rw [List.length_append]; exact Nat.add_le_add_right ht 1
    · omega

theorem BOx.fix_m (h : BOx w wr l mb xb nm nt ns) (hb : nm ≤ 1000000) {a b : Int} (v : Int) (ha : i64ok a) (hb' : i64ok b) :
    Calls Tryz.prog 33 #[.pointer (some ⟨mb, 0, none⟩), .int .i64 a, .int .i64 b, .int .i64 v] wr fun r w' => (∃ k : Int, r = .returned (.int .i64 k)) ∧ Hid (BOx w w' l mb xb (nm + 1) nt ns) := by
  obtain ⟨B, n, M, F, T, S, R, H⟩ := h
  have hn := H.hn
  refine (fix_any H.m (by omega) v ha hb').mono ?_
  rintro r w' ⟨k, n', f, rfl, hn', h1, h2⟩
  exact ⟨⟨_, rfl⟩, B, n', _, F, T, S, R, h1, H.x.stay h2 H.off, fxM_sound15 H.sd _, H.P, by omega, H.ht, H.hs, H.off, H.new⟩

theorem BOx.fix_x (h : BOx w wr l mb xb nm nt ns) (hb : ns ≤ 1000000) (a b v : Int) :
    Calls Tryz.prog 34 #[.pointer (some ⟨xb, 0, none⟩), .int .i64 a, .int .i64 b, .int .i64 v] wr fun r w' => (∃ k : Int, r = .returned (.int .i64 k)) ∧ Hid (BOx w w' l mb xb nm nt (ns + 1)) := by
  obtain ⟨B, n, M, F, T, S, R, H⟩ := h
  obtain ⟨ad, cap, vT, vS, h1, h2, h3⟩ := H.x
  have hs := H.hs
  refine (fix15s h1 (by omega) a b v).mono ?_
  rintro r w' ⟨hr, S', vS', k1, kl, k2, k3⟩
  have hst : Stay R wr w' := k2.mono (fun i e => h2 i (.inl e))
  refine ⟨hr, B, n, M, F, T, S', _, H.turn_x hst ⟨ad, cap, vT, vS', k1, fun i hi => ?_, fun i hi => ?_⟩ H.ht (by omega)⟩
  · rcases hi with hi | hi | hi | hi
    · exact .inl (h2 i (.inl hi))
    · exact .inl (h2 i (.inr (.inl hi)))
    · exact .inl (h2 i (.inr (.inr (.inl hi))))
    · rcases k3 i hi with e | e
      · exact .inl (h2 i (.inr (.inr (.inr e))))
      · exact .inr ⟨e, (k1.seg.lt i hi).2⟩
  · rcases hi with hi | hi
    · exact Nat.lt_of_lt_of_le (h3 i hi) hst.size
    · exact hi.2
end

/-- a row of segments, as the walk reads it -/
def SCells (w : World) (ad : Option Addr) (l : List Seg3) : Prop :=
  0 < l.length → ∃ b off, ad = some ⟨b, off, none⟩ ∧ b < w.heap.size ∧ ∀ i, i < l.length →
    w.cell? ⟨b, off + i * 3, none⟩ = some (.int .i64 (l.getD i (0, 0, 0)).1) ∧ w.cell? ⟨b, off + i * 3 + 1, none⟩ = some (.int .i64 (l.getD i (0, 0, 0)).2.1) ∧ w.cell? ⟨b, off + i * 3 + 2, none⟩ = some (.int .i64 (l.getD i (0, 0, 0)).2.2)
theorem SCells.below {w w' : World} {ad : Option Addr} {l : List Seg3} (h : SCells w ad l) (hb : Below w.heap.size w w') : SCells w' ad l := by
  intro hl
  obtain ⟨b, off, rfl, hbb, hc⟩ := h hl
  exact ⟨b, off, rfl, Nat.lt_of_lt_of_le hbb hb.size, fun i hi => ⟨cell_keep (hc i hi).1 hb, cell_keep (hc i hi).2.1 hb, cell_keep (hc i hi).2.2 hb⟩⟩

theorem bo_new {w w1 w2 : World} {l : List Pt} {mb xb B : Nat} {F R : Nat → Prop} (hm : MB w w1 mb 0 (emptyM l) F) (hx : RM w2 B xb l [] [] R) (hb : Below w1.heap.size w1 w2) (hR : ∀ i, R i → w1.heap.size ≤ i) : BOx w w2 l mb xb 0 0 0 :=
  ⟨B, 0, emptyM l, F, [], [], R, hm.below hb, hx, emptyM_sound l, rfl, Nat.le_refl _, Nat.le_refl _, Nat.le_refl _, fun i hi e => by have := hm.at_.flt i e; have := hR i hi; omega, fun i hi => Nat.le_trans hm.keep.size (hR i hi)⟩

end Go.Proofs.YtdoaniccefdkaaaGreatDoor

/- trivetlaw17.large, both, made. -/
namespace Go.Proofs.YtdoaniccefdkaaaGreatDoor
open Go.RowKit Tvf Go.Maps Go.WideMaps

/-- a mesh as it is given -/
structure GivenV (w : World) (l : List Pt) (ap : Option Addr) (cp : Nat) (T : List Tri3) (at_ : Option Addr) (ct : Nat) (S : List Seg3) (sa : Option Addr) (cs : Nat) : Prop where
  p : PCells w ap l
  p64 : ∀ p, p ∈ l → pt64 p
  t : TCells w at_ T
  ti : ∀ t, t ∈ T → i64ok t.1 ∧ i64ok t.2.1 ∧ i64ok t.2.2
  s : SCells w sa S
  si : ∀ s, s ∈ S → i64ok s.1 ∧ i64ok s.2.1 ∧ i64ok s.2.2
theorem GivenV.below {w w' : World} {l : List Pt} {ap : Option Addr} {cp : Nat} {T : List Tri3} {at_ : Option Addr} {ct : Nat} {S : List Seg3} {sa : Option Addr} {cs : Nat} (h : GivenV w l ap cp T at_ ct S sa cs) (hb : Below w.heap.size w w') : GivenV w' l ap cp T at_ ct S sa cs := ⟨h.p.below hb, h.p64, h.t.below hb, h.ti, h.s.below hb, h.si⟩

set_option maxRecDepth 100000 in
set_option maxHeartbeats 2000000 in
theorem large17 (ap at_ sa : Option Addr) (np cp nt ct ns cs : Nat) (w : World) :
    Calls Tryz.prog 16 #[.agg #[.slice ap np cp, .slice at_ nt ct, .slice sa ns cs]] w fun r w' => r = .returned (.bool (decide (60 < np) || (decide (120 < nt) || decide (60 < ns)))) ∧ Below w.heap.size w w' := by
  have h4 : (60 < np) ∨ (¬60 < np ∧ 120 < nt) ∨ (¬60 < np ∧ ¬120 < nt ∧ 60 < ns) ∨ (¬60 < np ∧ ¬120 < nt ∧ ¬60 < ns) := by omega
  rcases h4 with h1 | ⟨h1, h2⟩ | ⟨h1, h2, h3⟩ | ⟨h1, h2, h3⟩
  all_goals
    have z1 : ((60 : Int) < (np : Int)) = (60 < np) := by simp; omega
    have z2 : ((120 : Int) < (nt : Int)) = (120 < nt) := by simp; omega
    have z3 : ((60 : Int) < (ns : Int)) = (60 < ns) := by simp; omega
    go_enter Tryz.func16, Tryz.ntmps16
    go_wp2
    go_ret
    refine ⟨?_, (Below.refl _ _).alloc (Nat.le_refl _) _⟩
    simp [*]

set_option maxRecDepth 100000 in
set_option maxHeartbeats 8000000 in
theorem both17_bad {w : World} {l : List Pt} {ap : Option Addr} {cp : Nat} {at_ : Option Addr} {nt ct : Nat} {sa : Option Addr} {ns cs : Nat} (hp : PCells w ap l) (h64 : ∀ p, p ∈ l → pt64 p) (hk : allCode l ≠ 0) :
    Calls Tryz.prog 66 #[.agg #[.slice ap l.length cp, .slice at_ nt ct, .slice sa ns cs]] w fun r w' => r = .returned (.tuple #[.pointer none, .pointer none]) ∧ Below w.heap.size w w' := by
  have HB0 : Hid (∀ o, Below w.heap.size w (w.alloc o)) := fun o => (Below.refl _ _).alloc (Nat.le_refl _) o
  have HN1 := Lib.hid (fun W (hb : Below w.heap.size w W) => new_bad l ap cp h64 hk W (hp.below hb))
  have HN2 := Lib.hid (fun W (hb : Below w.heap.size w W) => new15_bad l ap cp h64 hk W (hp.below hb))
  have HC := Lib.hid (fun W (hb : Below (w.alloc (.cells #[.slice ap l.length cp, .slice at_ nt ct, .slice sa ns cs] 26)).heap.size (w.alloc (.cells #[.slice ap l.length cp, .slice at_ nt ct, .slice sa ns cs] 26)) W) => (C3.new w (.slice ap l.length cp) (.slice at_ nt ct) (.slice sa ns cs) 26).below hb)
  clear hp h64
  generalize allCode l = k at *
  go_enter Tryz.func66, Tryz.ntmps66
  go_wp2_with (first
    | (go_at_call 27; (with_reducible refine (HN1.out _ (HB0.out _)).mono ?_); rintro r w1 ⟨rfl, hb1⟩; obtain ⟨c0, c1, c2⟩ := HC.out _ hb1; have B1 := Lib.hid (bseq (HB0.out _) hb1))
    | (go_at_call 24; (with_reducible refine (HN2.out _ B1.out).mono ?_); rintro r w2 ⟨rfl, hb2⟩; have B2 := Lib.hid (bseq B1.out hb2)))
  go_ret2
  exact ⟨rfl, B2.out⟩

set_option maxRecDepth 100000 in
set_option maxHeartbeats 8000000 in
theorem both17_ok {w : World} {l : List Pt} {ap : Option Addr} {cp : Nat} {T : List Tri3} {at_ : Option Addr} {ct : Nat} {S : List Seg3} {sa : Option Addr} {cs : Nat} (h : GivenV w l ap cp T at_ ct S sa cs) (hk : allCode l = 0) (hl : l.length ≤ 60) (hT : T.length ≤ 120) (hS : S.length ≤ 60) :
    Calls Tryz.prog 66 #[.agg #[.slice ap l.length cp, .slice at_ T.length ct, .slice sa S.length cs]] w fun r w' => ∃ mb xb, r = .returned (.tuple #[.pointer (some ⟨mb, 0, none⟩), .pointer (some ⟨xb, 0, none⟩)]) ∧ Hid (∃ W0, Below w.heap.size w W0 ∧ BOx W0 w' l mb xb 1000 200 100) := by
  obtain ⟨W0, hW0⟩ : ∃ W0 : World, W0 = w.alloc (.cells #[.slice ap l.length cp, .slice at_ T.length ct, .slice sa S.length cs] 26) := ⟨_, rfl⟩
  have HB0 : Hid (Below w.heap.size w W0) := by rw [hW0]; exact (Below.refl _ _).alloc (Nat.le_refl _) _
  have HW0 := Lib.hid hW0
  have HG := Lib.hid (h.below HB0.out)
  have HC0 : Hid (C3 W0 w.heap.size (.slice ap l.length cp) (.slice at_ T.length ct) (.slice sa S.length cs)) := by rw [hW0]; exact C3.new _ _ _ _ _
  have HC : Hid (∀ W, Below W0.heap.size W0 W → C3 W w.heap.size (.slice ap l.length cp) (.slice at_ T.length ct) (.slice sa S.length cs)) := fun W hb => HC0.out.below hb
  have h1048 : l.length ≤ 1048576 := by omega
  have HN1 : Hid (Calls Tryz.prog 27 #[.slice ap l.length cp] W0 fun r w' => ∃ mb F, r = .returned (.tuple #[.pointer (some ⟨mb, 0, none⟩), .int .i64 0]) ∧ MB W0 w' mb 0 (emptyM l) F ∧ Below W0.heap.size W0 w' ∧ ∀ i, F i → W0.heap.size ≤ i) := new_mb l ap cp h.p64 hk h1048 W0 W0 (Below.refl _ _) HG.out.p
  have HN2 : Hid (∀ W, Below W0.heap.size W0 W → Calls Tryz.prog 24 #[.slice ap l.length cp] W fun r w' => ∃ xb R, r = .returned (.tuple #[.pointer (some ⟨xb, 0, none⟩), .int .i64 0]) ∧ RM w' W.heap.size xb l [] [] R ∧ Below W.heap.size W w' ∧ ∀ i, R i → W.heap.size ≤ i) := fun W hb => new15_ok l ap cp h.p64 hk h1048 W (HG.out.p.below hb)
  have HMM : Hid (∀ mb xb nm nt ns wr a b c, BOx W0 wr l mb xb nm nt ns → nm ≤ 1000 → Calls Tryz.prog 28 #[.pointer (some ⟨mb, 0, none⟩), .int .i64 a, .int .i64 b, .int .i64 c] wr fun r w' => (∃ k : Int, r = .returned (.int .i64 k)) ∧ Hid (BOx W0 w' l mb xb (nm + 3) nt ns)) := fun mb xb nm nt ns wr a b c hx hn => hx.make_m h.p64 h1048 (by omega) a b c
  have HMX : Hid (∀ mb xb nm nt ns wr a b c, BOx W0 wr l mb xb nm nt ns → nt ≤ 1000 → Calls Tryz.prog 25 #[.pointer (some ⟨xb, 0, none⟩), .int .i64 a, .int .i64 b, .int .i64 c] wr fun r w' => (∃ k : Int, r = .returned (.int .i64 k)) ∧ Hid (BOx W0 w' l mb xb nm (nt + 1) ns)) := fun mb xb nm nt ns wr a b c hx hn => hx.make_x h.p64 (by omega) a b c
  have HFM : Hid (∀ mb xb nm nt ns wr a b c, BOx W0 wr l mb xb nm nt ns → nm ≤ 1000 → i64ok a → i64ok b → Calls Tryz.prog 33 #[.pointer (some ⟨mb, 0, none⟩), .int .i64 a, .int .i64 b, .int .i64 c] wr fun r w' => (∃ k : Int, r = .returned (.int .i64 k)) ∧ Hid (BOx W0 w' l mb xb (nm + 1) nt ns)) := fun mb xb nm nt ns wr a b c hx hn ha hb => hx.fix_m (by omega) c ha hb
  have HFX : Hid (∀ mb xb nm nt ns wr a b c, BOx W0 wr l mb xb nm nt ns → ns ≤ 1000 → Calls Tryz.prog 34 #[.pointer (some ⟨xb, 0, none⟩), .int .i64 a, .int .i64 b, .int .i64 c] wr fun r w' => (∃ k : Int, r = .returned (.int .i64 k)) ∧ Hid (BOx W0 w' l mb xb nm nt (ns + 1))) := fun mb xb nm nt ns wr a b c hx hn => hx.fix_x (by omega) a b c
  have HT := Lib.hid hT
  have HS := Lib.hid hS
  clear h hk hl h1048 hT hS HC0 hW0
  go_enter Tryz.func66, Tryz.ntmps66
  go_upto_region 1 with fail
  rw [← HW0.out]
  obtain ⟨c0, c1, c2⟩ := HC.out W0 (Below.refl _ _)
  go_wp2_with (first
    | (go_at_call 27; (with_reducible refine HN1.out.mono ?_); rintro r w1 ⟨mb, F, rfl, hm, hb1, hF⟩; have HM1 := Lib.hid hm; have B1 := Lib.hid hb1; clear c0 c1 c2 hm hb1 hF; obtain ⟨c0, c1, c2⟩ := HC.out w1 B1.out)
    | (go_at_call 24; (with_reducible refine (HN2.out _ B1.out).mono ?_); rintro r w2 ⟨xb, R, rfl, hx, hb2, hR⟩; have HX2 := Lib.hid (bo_new HM1.out hx hb2 hR); clear c0 c1 c2 hx hb2 hR; obtain ⟨c0, c1, c2⟩ := HC.out w2 HX2.out.keep))
  clear HN1 HN2 HM1 B1 c0 c1 c2
  go_loopw [8] (fun s8 wr => ∃ i : Nat, i ≤ T.length ∧ s8 = .int .i64 i ∧ Hid (BOx W0 wr l mb xb (3 * i) i 0)) (fun s8 _ => T.length - (intOf s8).toNat)
  case atStart => exact ⟨0, Nat.zero_le _, rfl, HX2.out⟩
  case round =>
    obtain ⟨i, hi, rfl, HX⟩ := hrel
    obtain ⟨c0, c1, c2⟩ := HC.out _ HX.out.keep
    by_cases hlt : i < T.length
    · obtain ⟨tb, to_, rfl, htb, htc⟩ := HG.out.t (by omega)
      have HTC : Hid (∀ W, Below W0.heap.size W0 W → W.cell? ⟨w.heap.size, 1, none⟩ = some (.slice (some ⟨tb, to_, none⟩) T.length ct) ∧ W.cell? ⟨tb, to_ + i * 3, none⟩ = some (.int .i64 (T.getD i (0, 0, 0)).1) ∧ W.cell? ⟨tb, to_ + i * 3 + 1, none⟩ = some (.int .i64 (T.getD i (0, 0, 0)).2.1) ∧ W.cell? ⟨tb, to_ + i * 3 + 2, none⟩ = some (.int .i64 (T.getD i (0, 0, 0)).2.2)) := fun W hb => ⟨(HC.out W hb).2.1, cell_keep (htc i hlt).1 hb, cell_keep (htc i hlt).2.1 hb, cell_keep (htc i hlt).2.2 hb⟩
      clear htc
      generalize T.getD i (0, 0, 0) = tt at *
      obtain ⟨t0, t1, t2⟩ := tt
      dsimp only at HTC
      have hz : (i : Int) < (T.length : Int) := by omega
      have hi0 : (0 : Int) ≤ (i : Int) := by omega
      have hw1 : wrap64 ((i : Int) + 1) = (i : Int) + 1 := by have := HT.out; unfold wrap64; omega
      have HM8 := Lib.hid (HMM.out mb xb (3 * i) i 0 _ t0 t1 t2 HX.out.drew (by have := HT.out; omega))
      have n0 := HTC.out _ HX.out.drew.keep
      go_upto_region 8 with fail
      clear c0 c1 c2
      go_region_held3 (fun W => W.cell? ⟨w.heap.size, 1, none⟩ = some (.slice (some ⟨tb, to_, none⟩) T.length ct) ∧ W.cell? ⟨tb, to_ + i * 3, none⟩ = some (.int .i64 t0) ∧ W.cell? ⟨tb, to_ + i * 3 + 1, none⟩ = some (.int .i64 t1) ∧ W.cell? ⟨tb, to_ + i * 3 + 2, none⟩ = some (.int .i64 t2)) (first | with_reducible exact n0 | with_reducible exact n1)
        (first | (go_at_call 28; (with_reducible refine HM8.out.mono ?_); rintro r w3 ⟨⟨k8, rfl⟩, HX3⟩; have n1 := HTC.out w3 HX3.out.keep))
      clear n0 n1 HM8
      have HM9 := Lib.hid (HMX.out mb xb (3 * i + 3) i 0 _ t0 t1 t2 HX3.out.drew (by have := HT.out; omega))
      have n0 := HTC.out _ HX3.out.drew.keep
      go_upto_region 9 with fail
      go_region_held3 (fun W => W.cell? ⟨w.heap.size, 1, none⟩ = some (.slice (some ⟨tb, to_, none⟩) T.length ct) ∧ W.cell? ⟨tb, to_ + i * 3, none⟩ = some (.int .i64 t0) ∧ W.cell? ⟨tb, to_ + i * 3 + 1, none⟩ = some (.int .i64 t1) ∧ W.cell? ⟨tb, to_ + i * 3 + 2, none⟩ = some (.int .i64 t2)) (first | with_reducible exact n0 | with_reducible exact n1)
        (first | (go_at_call 25; (with_reducible refine HM9.out.mono ?_); rintro r w4 ⟨⟨k9, rfl⟩, HX4⟩; have n1 := HTC.out w4 HX4.out.keep))
      clear n0 n1 HM9
      go_wp2
      go_roundw
      case rel => exact ⟨i + 1, by omega, by (try rw [hw1]); rfl, by rw [show 3 * (i + 1) = 3 * i + 3 by omega]; exact HX4.out⟩
      case measure => (try rw [hw1]); simp only [intOf]; omega
    · have e : i = T.length := by omega
      subst e
      have hz : ¬(T.length : Int) < (T.length : Int) := by omega
      have HXT := HX
      go_wp2
      clear hz c0 c1 c2
      go_loopw [9] (fun s9 wr => ∃ j : Nat, j ≤ S.length ∧ s9 = .int .i64 j ∧ Hid (BOx W0 wr l mb xb (3 * T.length + j) T.length j)) (fun s9 _ => S.length - (intOf s9).toNat)
      case atStart => exact ⟨0, Nat.zero_le _, rfl, HXT.out⟩
      case round =>
        clear HX HXT HX2
        obtain ⟨j, hj, rfl, HX⟩ := hrel
        obtain ⟨c0, c1, c2⟩ := HC.out _ HX.out.keep
        by_cases hlt : j < S.length
        · obtain ⟨sb, so, rfl, hsb, hsc⟩ := HG.out.s (by omega)
          have HTC : Hid (∀ W, Below W0.heap.size W0 W → W.cell? ⟨w.heap.size, 2, none⟩ = some (.slice (some ⟨sb, so, none⟩) S.length cs) ∧ W.cell? ⟨sb, so + j * 3, none⟩ = some (.int .i64 (S.getD j (0, 0, 0)).1) ∧ W.cell? ⟨sb, so + j * 3 + 1, none⟩ = some (.int .i64 (S.getD j (0, 0, 0)).2.1) ∧ W.cell? ⟨sb, so + j * 3 + 2, none⟩ = some (.int .i64 (S.getD j (0, 0, 0)).2.2)) := fun W hb => ⟨(HC.out W hb).2.2, cell_keep (hsc j hlt).1 hb, cell_keep (hsc j hlt).2.1 hb, cell_keep (hsc j hlt).2.2 hb⟩
          have HSI := Lib.hid (HG.out.si (S.getD j (0, 0, 0)) (getD_mem3 hlt))
          clear hsc
          generalize S.getD j (0, 0, 0) = ss at *
          obtain ⟨s0, s1, s2⟩ := ss
          dsimp only at HTC HSI
          have hz : (j : Int) < (S.length : Int) := by omega
          have hj0 : (0 : Int) ≤ (j : Int) := by omega
          have hw1 : wrap64 ((j : Int) + 1) = (j : Int) + 1 := by have := HS.out; unfold wrap64; omega
          have HM8 := Lib.hid (HFM.out mb xb (3 * T.length + j) T.length j _ s0 s1 s2 HX.out.drew (by have := HT.out; have := HS.out; omega) HSI.out.1 HSI.out.2.1)
          have n0 := HTC.out _ HX.out.drew.keep
          go_upto_region 13 with fail
          clear c0 c1 c2
          go_region_held3 (fun W => W.cell? ⟨w.heap.size, 2, none⟩ = some (.slice (some ⟨sb, so, none⟩) S.length cs) ∧ W.cell? ⟨sb, so + j * 3, none⟩ = some (.int .i64 s0) ∧ W.cell? ⟨sb, so + j * 3 + 1, none⟩ = some (.int .i64 s1) ∧ W.cell? ⟨sb, so + j * 3 + 2, none⟩ = some (.int .i64 s2)) (first | with_reducible exact n0 | with_reducible exact n1)
            (first | (go_at_call 33; (with_reducible refine HM8.out.mono ?_); rintro r w3 ⟨⟨k8, rfl⟩, HX3⟩; have n1 := HTC.out w3 HX3.out.keep))
          clear n0 n1 HM8
          have HM9 := Lib.hid (HFX.out mb xb (3 * T.length + j + 1) T.length j _ s0 s1 s2 HX3.out.drew (by have := HS.out; omega))
          have n0 := HTC.out _ HX3.out.drew.keep
          go_upto_region 14 with fail
          go_region_held3 (fun W => W.cell? ⟨w.heap.size, 2, none⟩ = some (.slice (some ⟨sb, so, none⟩) S.length cs) ∧ W.cell? ⟨sb, so + j * 3, none⟩ = some (.int .i64 s0) ∧ W.cell? ⟨sb, so + j * 3 + 1, none⟩ = some (.int .i64 s1) ∧ W.cell? ⟨sb, so + j * 3 + 2, none⟩ = some (.int .i64 s2)) (first | with_reducible exact n0 | with_reducible exact n1)
            (first | (go_at_call 34; (with_reducible refine HM9.out.mono ?_); rintro r w4 ⟨⟨k9, rfl⟩, HX4⟩; have n1 := HTC.out w4 HX4.out.keep))
          clear n0 n1 HM9
          go_wp2
          go_roundw
          case rel => exact ⟨j + 1, by omega, by (try rw [hw1]); rfl, HX4.out⟩
          case measure => (try rw [hw1]); simp only [intOf]; omega
        · have e : j = S.length := by omega
          subst e
          have hz : ¬(S.length : Int) < (S.length : Int) := by omega
          go_wp2
          go_ret2
          refine ⟨_, _, rfl, W0, HB0.out, ?_⟩
          obtain ⟨B, n, M, F, T', S', R, H⟩ := HX.out
          exact ⟨B, n, M, F, T', S', R, H.m, H.x, H.sd, H.P, by have := H.hn; have := HT.out; have := HS.out; omega, by have := H.ht; have := HT.out; omega, by have := H.hs; have := HS.out; omega, H.off, H.new⟩

set_option maxRecDepth 100000 in
set_option maxHeartbeats 2000000 in
theorem made17_bad {w : World} {l : List Pt} {ap : Option Addr} {cp : Nat} {at_ : Option Addr} {nt ct : Nat} {sa : Option Addr} {ns cs : Nat} (hp : PCells w ap l) (h64 : ∀ p, p ∈ l → pt64 p) (hk : allCode l ≠ 0) :
    Calls Tryz.prog 17 #[.agg #[.slice ap l.length cp, .slice at_ nt ct, .slice sa ns cs]] w fun r w' => r = .returned (.pointer none) ∧ Below w.heap.size w w' := by
  have HB0 : Hid (∀ o, Below w.heap.size w (w.alloc o)) := fun o => (Below.refl _ _).alloc (Nat.le_refl _) o
  have HN := Lib.hid (fun W (hb : Below w.heap.size w W) => both17_bad (at_ := at_) (nt := nt) (ct := ct) (sa := sa) (ns := ns) (cs := cs) (cp := cp) (hp.below hb) h64 hk)
  clear hp h64 hk
  go_enter Tryz.func17, Tryz.ntmps17
  go_wp2_with (go_at_call 66; (with_reducible refine (HN.out _ (HB0.out _)).mono ?_); rintro r w1 ⟨rfl, hb1⟩)
  go_ret
  exact ⟨rfl, bseq (HB0.out _) hb1⟩

set_option maxRecDepth 100000 in
set_option maxHeartbeats 2000000 in
theorem made17_ok {w : World} {l : List Pt} {ap : Option Addr} {cp : Nat} {T : List Tri3} {at_ : Option Addr} {ct : Nat} {S : List Seg3} {sa : Option Addr} {cs : Nat} (h : GivenV w l ap cp T at_ ct S sa cs) (hk : allCode l = 0) (hl : l.length ≤ 60) (hT : T.length ≤ 120) (hS : S.length ≤ 60) :
    Calls Tryz.prog 17 #[.agg #[.slice ap l.length cp, .slice at_ T.length ct, .slice sa S.length cs]] w fun r w' => ∃ mb, r = .returned (.pointer (some ⟨mb, 0, none⟩)) ∧ Hid (∃ W0 n M F, Below w.heap.size w W0 ∧ MB W0 w' mb n M F ∧ Sound M ∧ M.P = l ∧ n ≤ 1000) := by
  have HB0 : Hid (∀ o, Below w.heap.size w (w.alloc o)) := fun o => (Below.refl _ _).alloc (Nat.le_refl _) o
  have HN := Lib.hid (fun W (hb : Below w.heap.size w W) => both17_ok (h.below hb) hk hl hT hS)
  clear h hk hl hT hS
  go_enter Tryz.func17, Tryz.ntmps17
  go_wp2_with (go_at_call 66; (with_reducible refine (HN.out _ (HB0.out _)).mono ?_); rintro r w1 ⟨mb, xb, rfl, HX⟩)
  go_ret
  obtain ⟨W0, hb, B, n, M, F, T', S', R, H⟩ := HX.out
  exact ⟨mb, rfl, W0, n, M, F, bseq (HB0.out _) hb, H.m, H.sd, H.P, H.hn⟩

end Go.Proofs.YtdoaniccefdkaaaGreatDoor
