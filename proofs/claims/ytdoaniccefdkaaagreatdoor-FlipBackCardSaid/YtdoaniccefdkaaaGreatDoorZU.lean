/- Part of the proof. No conditions. -/
import Derived.Test.YtdoaniccefdkaaaGreatDoorZD
import Derived.Test.YtdoaniccefdkaaaGreatDoorZG
import Derived.Test.YtdoaniccefdkaaaGreatDoorZT
import Derived.Maps.AppendAt

set_option linter.all false
/- trivetref07.All. -/
namespace Go.Proofs.YtdoaniccefdkaaaGreatDoor
open Go.RowKit Tvf Go.Maps Go.WideMaps

set_option maxRecDepth 100000 in
set_option maxHeartbeats 4000000 in
/-- which points may be, by the document -/
theorem all07 (l : List Pt) (ad : Option Addr) (cap : Nat) (h64 : ∀ p, p ∈ l → pt64 p) (w : World) (hc : PCells w ad l) :
    Calls Tryz.prog 32 #[.slice ad l.length cap] w fun r w' => ∃ i : Int, r = .returned (.tuple #[.int .i64 i, .int .i64 (allCode l)]) ∧ Below w.heap.size w w' := by
  have HC := Lib.hid hc
  have H64 := Lib.hid h64
  clear hc h64
  by_cases hl : 1048576 < l.length
  · have e : allCode l = 3 := by unfold allCode; rw [if_pos hl]
    rw [e]
    go_enter Tryz.func32, Tryz.ntmps32
    go_wp2
    go_ret2
    exact ⟨0, rfl, Below.refl _ _⟩
  · have HA : Hid (allCode l = if l.all ptOK then 0 else 10) := by unfold Hid allCode; rw [if_neg hl]
    go_enter Tryz.func32, Tryz.ntmps32
    go_wp2
    go_loopw [4] (fun i wr => ∃ n : Nat, n ≤ l.length ∧ i = .int .i64 n ∧ Hid ((l.take n).all ptOK = true) ∧ Below w.heap.size w wr) (fun i _ => l.length - (intOf i).toNat)
    case atStart => exact ⟨0, Nat.zero_le _, rfl, by simp [Hid], Below.refl _ _⟩
    case round =>
      obtain ⟨n, hn, rfl, HO, hbw⟩ := hrel
      by_cases hlt : n < l.length
      · obtain ⟨bb, off, rfl, hbb, hc⟩ := HC.out (by omega)
        have hcx : wr.cell? ⟨bb, off + n * 2, none⟩ = some (.float .f64 (l.getD n (0, 0)).1) := (hbw.cell (p := ⟨bb, off + n * 2, none⟩) hbb).trans (hc n hlt).1
        have hcy : wr.cell? ⟨bb, off + n * 2 + 1, none⟩ = some (.float .f64 (l.getD n (0, 0)).2) := (hbw.cell (p := ⟨bb, off + n * 2 + 1, none⟩) hbb).trans (hc n hlt).2
        clear hc
        have hm := getD_memP hlt
        have HN : Hid (∀ W, Calls Tryz.prog 96 #[.agg #[.float .f64 (l.getD n (0, 0)).1, .float .f64 (l.getD n (0, 0)).2]] W fun r w' => r = .returned (.bool (ptOK (l.getD n (0, 0)))) ∧ Below W.heap.size W w') := fun W => may05 (H64.out _ hm)
        have HT := Lib.hid (take_snocP l n hlt)
        have HALL : Hid (ptOK (l.getD n (0, 0)) = false → allCode l = 10) := fun h => by
          have : l.all ptOK = false := by rw [List.all_eq_false]; exact ⟨_, hm, by rw [h]; simp⟩
          rw [HA.out, this]; rfl
        clear hm
        have HON : Hid (ptOK (l.getD n (0, 0)) = true → (l.take (n + 1)).all ptOK = true) := fun h => by
          rw [HT.out, List.all_append, HO.out]; simp only [List.all_cons, List.all_nil, Bool.and_true, Bool.true_and]; exact h
        clear HT
        generalize l.getD n (0, 0) = p at *
        generalize ptOK p = ok at *
        obtain ⟨x, y⟩ := p
        dsimp only at hcx hcy HN
        cases ok
        · have HF := Lib.hid (HALL.out rfl)
          go_wp2_with (go_at_call 96; (with_reducible refine (HN.out _).mono ?_); rintro r w1 ⟨rfl, hb1⟩)
          go_ret2
          rw [HF.out]
          exact ⟨_, rfl, hbw.trans (hb1.mono hbw.size)⟩
        · have HF := Lib.hid (HON.out rfl)
          have hw1 : wrap64 ((n : Int) + 1) = ((n + 1 : Nat) : Int) := by unfold wrap64; omega
          go_wp2_with (go_at_call 96; (with_reducible refine (HN.out _).mono ?_); rintro r w1 ⟨rfl, hb1⟩)
          go_roundw
          case rel => exact ⟨n + 1, by omega, by rfl, HF, hbw.trans (hb1.mono hbw.size)⟩
          case measure => simp [intOf]; omega
      · have e : n = l.length := by omega
        subst e
        have HF : Hid (allCode l = 0) := by
          have := HO.out
          rw [List.take_length] at this
          unfold Hid; rw [HA.out, this]; rfl
        go_wp2
        go_ret2
        rw [HF.out]
        exact ⟨_, rfl, hbw⟩

end Go.Proofs.YtdoaniccefdkaaaGreatDoor

/- trivetref15: the document's mesh, plainly, and in memory. -/
namespace Go.Proofs.YtdoaniccefdkaaaGreatDoor
open Go.RowKit Tvf Go.Maps Go.WideMaps

abbrev Seg3 := Int × Int × Int
def encS (s : Seg3) : List Value := [.int .i64 s.1, .int .i64 s.2.1, .int .i64 s.2.2]
theorem encS_one (s : Seg3) : ∀ u ∈ encS s, u.oneCell' = true := by
  intro u hu
  simp only [encS, List.mem_cons, List.not_mem_nil, or_false] at hu
  rcases hu with rfl | rfl | rfl <;> rfl

/-! ### plainly -/
/-- the third corner of a triangle behind one of its edges -/
def apT (t : Tri3) (a b : Int) : Option Int := if t.1 = a ∧ t.2.1 = b then some t.2.2 else if t.2.1 = a ∧ t.2.2 = b then some t.1 else if t.2.2 = a ∧ t.1 = b then some t.2.1 else none
def apR (T : List Tri3) (a b : Int) : Option Int := T.findSome? fun t => apT t a b
def hasP (P : List Pt) (i : Int) : Bool := decide (0 ≤ i) && decide (i < P.length)
def ptP (P : List Pt) (i : Int) : Pt := P.getD i.toNat (0, 0)
def mkCode (P : List Pt) (T : List Tri3) (a b c : Int) : Int :=
  if (hasP P a && (hasP P b && hasP P c)) = false then 11 else if signI (ptP P a) (ptP P b) (ptP P c) ≤ 0 then 14 else if ((apR T a b).isSome || ((apR T b c).isSome || (apR T c a).isSome)) = true then 14 else 0
def mkR (P : List Pt) (T : List Tri3) (a b c : Int) : List Tri3 := if mkCode P T a b c = 0 then T ++ [(a, b, c)] else T

/-! ### in memory -/
theorem PCells.block {w w' : World} {ad : Option Addr} {l : List Pt} (h : PCells w ad l) (hs : w.heap.size ≤ w'.heap.size) (hb : ∀ g, ad = some g → g.block < w.heap.size → w'.heap[g.block]? = w.heap[g.block]?) : PCells w' ad l := by
  intro h0
  obtain ⟨b, off, rfl, hlt, hc⟩ := h h0
  have e := hb _ rfl hlt
  exact ⟨b, off, rfl, Nat.lt_of_lt_of_le hlt hs, fun i hi => ⟨(World.cell?_of_block (a := ⟨b, off + i * 2, none⟩) e).trans (hc i hi).1, (World.cell?_of_block (a := ⟨b, off + i * 2 + 1, none⟩) e).trans (hc i hi).2⟩⟩

/-- the blocks of a mesh of the document's -/
def RB (xb : Nat) (ad : Option Addr) (vT vS : Value) (i : Nat) : Prop := i = xb ∨ (∃ g, ad = some g ∧ g.block = i) ∨ vT.ownBlock = some i ∨ vS.ownBlock = some i

structure RMs (w : World) (B xb : Nat) (P : List Pt) (ad : Option Addr) (cap : Nat) (T : List Tri3) (vT : Value) (S : List Seg3) (vS : Value) : Prop where
  box : Box3 55 w xb (.slice ad P.length cap) vT vS
  pts : PCells w ad P
  tri : w.ownsRow B 45 3 vT T.length (cellsK encT T)
  seg : w.ownsRow B 141 3 vS S.length (cellsK encS S)
  px : ∀ g, ad = some g → g.block ≠ xb
  pt : ∀ g, ad = some g → vT.ownBlock ≠ some g.block
  ps : ∀ g, ad = some g → vS.ownBlock ≠ some g.block
  tx : vT.ownBlock ≠ some xb
  sx : vS.ownBlock ≠ some xb
  ts : ∀ b, vT.ownBlock = some b → vS.ownBlock ≠ some b
  bB : B ≤ w.heap.size
  pl : ∀ g, ad = some g → g.block < w.heap.size

section
variable {w w' : World} {B xb : Nat} {P : List Pt} {ad : Option Addr} {cap : Nat} {T : List Tri3} {vT : Value} {S : List Seg3} {vS : Value}
theorem RMs.same (h : RMs w B xb P ad cap T vT S vS) (hs : w.heap.size ≤ w'.heap.size) (hb : ∀ i, RB xb ad vT vS i → i < w.heap.size → w'.heap[i]? = w.heap[i]?) : RMs w' B xb P ad cap T vT S vS :=
  ⟨(hb xb (.inl rfl) h.box.lt).trans h.box, h.pts.block hs (fun g e hl => hb _ (.inr (.inl ⟨g, e, rfl⟩)) hl), ownsRow_same h.tri (fun g e => hb g (.inr (.inr (.inl e))) (h.tri.lt g e).2), ownsRow_same h.seg (fun g e => hb g (.inr (.inr (.inr e))) (h.seg.lt g e).2), h.px, h.pt, h.ps, h.tx, h.sx, h.ts, Nat.le_trans h.bB hs, fun g e => Nat.lt_of_lt_of_le (h.pl g e) hs⟩
theorem RMs.below (h : RMs w B xb P ad cap T vT S vS) (hb : Below w.heap.size w w') : RMs w' B xb P ad cap T vT S vS := h.same hb.size (fun i _ hl => hb.block i hl)
theorem RMs.stay (h : RMs w B xb P ad cap T vT S vS) {F : Nat → Prop} (hs : Stay F w w') (hd : ∀ i, RB xb ad vT vS i → ¬F i) : RMs w' B xb P ad cap T vT S vS := h.same hs.size (fun i hi hl => hs.block i hl (hd i hi))
theorem RMs.cells (h : RMs w B xb P ad cap T vT S vS) : w.cell? ⟨xb, 0, none⟩ = some (.slice ad P.length cap) ∧ w.cell? ⟨xb, 1, none⟩ = some vT ∧ w.cell? ⟨xb, 2, none⟩ = some vS := h.box.c
end

/-- the document's mesh, its blocks among R -/
def RM (w : World) (B xb : Nat) (P : List Pt) (T : List Tri3) (S : List Seg3) (R : Nat → Prop) : Prop :=
  ∃ ad cap vT vS, RMs w B xb P ad cap T vT S vS ∧ (∀ i, RB xb ad vT vS i → R i) ∧ ∀ i, R i → i < w.heap.size
section
variable {w w' : World} {B xb : Nat} {P : List Pt} {T : List Tri3} {S : List Seg3} {R : Nat → Prop}
theorem RM.below (h : RM w B xb P T S R) (hb : Below w.heap.size w w') : RM w' B xb P T S R := by
  obtain ⟨ad, cap, vT, vS, h1, h2, h3⟩ := h
  exact ⟨ad, cap, vT, vS, h1.below hb, h2, fun i hi => Nat.lt_of_lt_of_le (h3 i hi) hb.size⟩
theorem RM.stay (h : RM w B xb P T S R) {F : Nat → Prop} (hs : Stay F w w') (hd : ∀ i, R i → ¬F i) : RM w' B xb P T S R := by
  obtain ⟨ad, cap, vT, vS, h1, h2, h3⟩ := h
  exact ⟨ad, cap, vT, vS, h1.stay hs (fun i hi => hd i (h2 i hi)), h2, fun i hi => Nat.lt_of_lt_of_le (h3 i hi) hs.size⟩
end

end Go.Proofs.YtdoaniccefdkaaaGreatDoor

/- trivetref15.New. -/
namespace Go.Proofs.YtdoaniccefdkaaaGreatDoor
open Go.RowKit Tvf Go.Maps Go.WideMaps

/-- nothing is appended -/
theorem run_append_zero {P : Program} (w : World) (t ty e : TypeId) (i : TypeInfo) (ht : P.underlying t = some (.slice e)) (hi : P.info? e = some i) (b : Option Addr) (n c : Nat) (hnc : n ≤ c) (x : Option Addr) (c2 : Nat) :
    (Builtin.append_ #[t, t] ty #[.slice b n c, .slice x 0 c2]).run P w = .ok (.slice b n c) w := by
  have h1 := run_firstCells_none (P := P) w i.size 0 0 c2
  have h2 : ∀ a, (Builtin.firstCells i.size 0 (.slice (some a) 0 c2)).run P w = .ok #[] w := fun a => run_firstCells_some (P := P) w i.size 0 a 0 c2 [] (by simp) (fun j v hj => by simp at hj)
  cases x with
  | none => cases b <;> simp [Builtin.append_, run_underlying ht, sizeOf, typeInfo, hi, Builtin.lenOf, hnc, h1, storeCells]
  | some a => cases b <;> simp [Builtin.append_, run_underlying ht, sizeOf, typeInfo, hi, Builtin.lenOf, hnc, h2, storeCells]

theorem wpList_append_zero {P : Program} {w : World} {ops : Array Oper} {rest : List Oper} {o : Oper} {a : Act} {Q : Exit → Act → World → Prop} (hgd : o.guard = none) (s x : Operand) (t : TypeId)
    (ho : o.op = .call { callee := .builtin .append, args := #[s, x], argTypes := #[t, t] }) (e : TypeId) (i : TypeInfo) (ht : P.underlying t = some (.slice e)) (hi : P.info? e = some i) (b : Option Addr) (n c : Nat)
    (hs : a.eval s = .slice b n c) (hnc : n ≤ c) (y : Option Addr) (c2 : Nat) (hx : a.eval x = .slice y 0 c2) (h : wpList P ops Q rest (a.put o.dst (.slice b n c)) w) : wpList P ops Q (o :: rest) a w :=
  wpList_plain hgd fun K hK => by
    have hr := run_append_zero (P := P) w t o.type e i ht hi b n c hnc y c2
    unfold Oper.wp execOp
    simp only [ho, resolve, invoke, builtin, Sem.run_bind, Sem.run_pure, Result.andThen_ok, List.map_toArray, List.map_cons, List.map_nil, hs, hx, hr]
    exact hK _ _ h

theorem owns_pts15 {w : World} {base : Nat} {v : Value} {l : List Pt} (h : w.ownsRow base 52 2 v l.length (cellsP l)) : ∃ ad cap, v = .slice ad l.length cap ∧ PCells w ad l ∧ ∀ g, ad = some g → base ≤ g.block ∧ g.block < w.heap.size := by
  rcases h.2 with ⟨h1, h2⟩ | ⟨g, cap, cur, h1, h2, h3, h4, h5, h6, h7⟩
  · exact ⟨none, 0, by rw [h2]; exact h1, fun hl => absurd h2 (by omega), fun _ e => by cases e⟩
  · have hg : g < w.heap.size := (Array.getElem?_eq_some_iff.1 h3).1
    refine ⟨some ⟨g, 0, none⟩, cap, h1, fun _ => ⟨g, 0, rfl, hg, fun i hi => ?_⟩, fun a e => by cases e; exact ⟨h2, hg⟩⟩
    have hp := h
    rw [h1] at hp
    have := cellsP_at l i hi
    refine ⟨?_, ?_⟩
    · rw [hp.cellAt _ (by omega)]; simpa using this.1
    · rw [hp.cellAt _ (by omega)]; simpa using this.2

set_option maxRecDepth 100000 in
set_option maxHeartbeats 2000000 in
theorem new15_bad (l : List Pt) (ad : Option Addr) (cap : Nat) (h64 : ∀ p, p ∈ l → pt64 p) (hk : allCode l ≠ 0) (w : World) (hc : PCells w ad l) :
    Calls Tryz.prog 24 #[.slice ad l.length cap] w fun r w' => r = .returned (.tuple #[.pointer none, .int .i64 (allCode l)]) ∧ Below w.heap.size w w' := by
  have HA := Lib.hid (all07 l ad cap h64 w hc)
  generalize allCode l = k at *
  clear h64 hc
  go_enter Tryz.func24, Tryz.ntmps24
  go_wp2_with (go_at_call 32; (with_reducible refine HA.out.mono ?_); rintro r w1 ⟨i, rfl, hb1⟩)
  go_ret2
  exact ⟨rfl, hb1⟩

theorem rm_new {w w2 : World} {l : List Pt} {v : Value} {t : TypeId} (ho : w2.ownsRow w.heap.size 52 2 v l.length (cellsP l)) (hb2 : Below w.heap.size w w2) (ht : t = 55) :
    ∃ R, RM (w2.alloc (.cells #[v, .slice none 0 0, .slice none 0 0] t)) w.heap.size w2.heap.size l [] [] R ∧ Below w.heap.size w (w2.alloc (.cells #[v, .slice none 0 0, .slice none 0 0] t)) ∧ ∀ i, R i → w.heap.size ≤ i := by
  subst ht
  obtain ⟨ad, cap, rfl, hp, hg⟩ := owns_pts15 ho
  have hal : Below w2.heap.size w2 (w2.alloc (.cells #[.slice ad l.length cap, .slice none 0 0, .slice none 0 0] 55)) := (Below.refl _ _).alloc (Nat.le_refl _) _
  have hsz : (w2.alloc (.cells #[.slice ad l.length cap, .slice none 0 0, .slice none 0 0] 55)).heap.size = w2.heap.size + 1 := by simp
  refine ⟨RB w2.heap.size ad (.slice none 0 0) (.slice none 0 0), ⟨ad, cap, .slice none 0 0, .slice none 0 0, ⟨Box3.new _ _ _ _ _, hp.below hal, World.ownsRow_nil _ _ _ _, World.ownsRow_nil _ _ _ _, fun g e => by have := (hg g e).2; omega, fun g e => by simp [Value.ownBlock], fun g e => by simp [Value.ownBlock], by simp [Value.ownBlock], by simp [Value.ownBlock], fun b e => by simp [Value.ownBlock] at e, by rw [hsz]; exact Nat.le_trans hb2.size (Nat.le_succ _), fun g e => by have := (hg g e).2; rw [hsz]; omega⟩, fun i h => h, ?_⟩, hb2.alloc hb2.size _, ?_⟩
  · rintro i (rfl | ⟨g, e, rfl⟩ | e | e)
    · rw [hsz]; omega
    · have := (hg g e).2; rw [hsz]; omega
    · simp [Value.ownBlock] at e
    · simp [Value.ownBlock] at e
  · rintro i (rfl | ⟨g, e, rfl⟩ | e | e)
    · exact hb2.size
    · exact (hg g e).1
    · simp [Value.ownBlock] at e
    · simp [Value.ownBlock] at e

set_option maxRecDepth 100000 in
set_option maxHeartbeats 2000000 in
theorem new15_ok (l : List Pt) (ad : Option Addr) (cap : Nat) (h64 : ∀ p, p ∈ l → pt64 p) (hk : allCode l = 0) (hl : l.length ≤ 1048576) (w : World) (hc : PCells w ad l) :
    Calls Tryz.prog 24 #[.slice ad l.length cap] w fun r w' => ∃ xb R, r = .returned (.tuple #[.pointer (some ⟨xb, 0, none⟩), .int .i64 0]) ∧ RM w' w.heap.size xb l [] [] R ∧ Below w.heap.size w w' ∧ ∀ i, R i → w.heap.size ≤ i := by
  obtain ⟨i0, hi, hz0, hz1, hz2⟩ := info_parts infoPt
  have HA := Lib.hid (all07 l ad cap h64 w hc)
  rw [hk] at HA
  have HL := Lib.hid hl
  cases ad with
  | none =>
    have hl0 : l = [] := by
      cases l with
      | nil => rfl
      | cons p r => obtain ⟨b, off, e, _⟩ := hc (by simp); cases e
    subst hl0
    clear h64 hk hl hc
    rw [List.length_nil] at HA ⊢
    go_enter Tryz.func24, Tryz.ntmps24
    go_wp2_with (first
      | (go_at_call 32; (with_reducible refine HA.out.mono ?_); rintro r w1 ⟨i, rfl, hb1⟩)
      | (at_builtin; refine wpList_append_zero rfl _ _ 22 rfl 52 i0 Tryz.underlying22 hi _ _ _ rfl (Nat.le_refl _) _ _ rfl ?_))
    go_ret2
    have ho : (w1.alloc (.cells #[] 52)).ownsRow w.heap.size 52 2 (.slice (some ⟨w1.heap.size, 0, none⟩) 0 0) ([] : List Pt).length (cellsP []) := ⟨rfl, .inr ⟨w1.heap.size, 0, #[], rfl, hb1.size, heap_alloc_new _ _, Nat.le_refl _, Nat.zero_le _, rfl, rfl⟩⟩
    obtain ⟨R, h1, h2, h3⟩ := rm_new ho (hb1.alloc hb1.size _) rfl
    rw [show (w1.alloc (.cells #[] 52)).heap.size = w1.heap.size + 1 from by simp] at h1
    exact ⟨_, R, rfl, h1, h2, h3⟩
  | some a =>
    have HC : Hid (∀ W, Below w.heap.size w W → ∀ o j u, (cellsP l)[j]? = some u → (W.alloc o).cell? (a.add j) = some u) := fun W hb o j u hj => by
      have h0 : 0 < l.length := by
        cases l with
        | nil => simp [cellsP] at hj
        | cons p r => simp
      obtain ⟨b, off, e, hlt, _⟩ := hc h0
      cases e
      have hcell := hc.cell j u hj
      have e2 : (⟨b, off, none⟩ : Addr).add j = ⟨b, off + j, none⟩ := by simp [Addr.add]
      rw [e2]
      exact cell_al ((hb.cell (p := ⟨b, off + j, none⟩) hlt).trans hcell) o
    have HP1 := Lib.hid (cellsP_one l)
    have HPL := Lib.hid (cellsP_len l)
    clear h64 hk hl hc
    go_enter Tryz.func24, Tryz.ntmps24
    go_wp2_with (first
      | (go_at_call 32; (with_reducible refine HA.out.mono ?_); rintro r w1 ⟨i, rfl, hb1⟩)
      | (at_builtin; refine wpList_append_own _ rfl _ _ 22 rfl w1.heap.size 52 i0 (.agg #[.float .f64 0, .float .f64 0]) 2 16 Tryz.underlying22 hi hz0 hz1 hz2 rfl (by decide) _ _ _ rfl (World.ownsRow_made w1 #[] 0 (Nat.le_refl _) (Nat.zero_le _) (by simp)) a l.length cap (cellsP l) rfl ?qc1 ?qc2 ?qc3 ?qc4 ?qc5 ?qc6 ?_))
    case qc1 => exact HPL.out
    case qc2 => exact HC.out w1 hb1 _
    case qc3 => exact HP1.out
    case qc4 => have := HL.out; unfold maxLen; omega
    case qc5 => have := HL.out; omega
    case qc6 => simp
    intro v' w2 hown hgrow hnil
    have ho : w2.ownsRow w.heap.size 52 2 v' l.length (cellsP l) := ownsRow_down hb1.size (by simpa using hown)
    obtain ⟨g9, c9, hv⟩ : ∃ g9 c9, v' = .slice g9 l.length c9 := by obtain ⟨ad', c', e, _⟩ := owns_pts15 ho; exact ⟨_, _, e⟩
    subst hv
    go_wp2
    go_ret2
    have hb2 : Below w.heap.size w w2 := hb1.trans (((Below.refl _ w1).alloc (Nat.le_refl _) _).grown hgrow (by simp) (by intro k hk; simp [Value.ownBlock] at hk; omega) |>.mono hb1.size)
    obtain ⟨R, h1, h2, h3⟩ := rm_new ho hb2 rfl
    exact ⟨_, R, rfl, h1, h2, h3⟩

end Go.Proofs.YtdoaniccefdkaaaGreatDoor

/- trivetref15: has, Apex. -/
namespace Go.Proofs.YtdoaniccefdkaaaGreatDoor
open Go.RowKit Tvf Go.Maps Go.WideMaps

set_option maxRecDepth 100000 in
set_option maxHeartbeats 1000000 in
theorem has15 {w : World} {B xb : Nat} {P : List Pt} {ad : Option Addr} {cap : Nat} {T : List Tri3} {vT : Value} {S : List Seg3} {vS : Value} (h : RMs w B xb P ad cap T vT S vS) (i : Int) :
    Calls Tryz.prog 72 #[.pointer (some ⟨xb, 0, none⟩), .int .i64 i] w fun r w' => r = .returned (.bool (hasP P i)) ∧ w' = w := by
  have c0 := h.cells.1
  unfold hasP
  clear h
  generalize P.length = L at *
  by_cases h0 : 0 ≤ i
  · by_cases h1 : i < (L : Int)
    all_goals
      go_enter Tryz.func72, Tryz.ntmps72
      go_wp2
      go_ret
      first | (simp [h0]; done) | (simp [h0]; omega)
  · go_enter Tryz.func72, Tryz.ntmps72
    go_wp2
    go_ret
    simp; omega

theorem apR_none {T : List Tri3} {a b : Int} (h : ∀ j, j < T.length → apT (T.getD j (0, 0, 0)) a b = none) : apR T a b = none := by
  unfold apR
  rw [List.findSome?_eq_none_iff]
  intro t ht
  obtain ⟨j, hj, rfl⟩ := List.getElem_of_mem ht
  have := h j hj
  rwa [List.getD_eq_getElem?_getD, List.getElem?_eq_getElem hj] at this
theorem apR_at {T : List Tri3} {a b c : Int} {i : Nat} (hi : i < T.length) (h : ∀ j, j < i → apT (T.getD j (0, 0, 0)) a b = none) (hc : apT (T.getD i (0, 0, 0)) a b = some c) : apR T a b = some c := by
  have e : T = T.take i ++ T.getD i (0, 0, 0) :: T.drop (i + 1) := by
    rw [List.getD_eq_getElem?_getD, List.getElem?_eq_getElem hi]
    simp
  have h1 : apR (T.take i) a b = none := apR_none (fun j hj => by
    rw [List.length_take] at hj
    have := h j (by omega)
    rwa [List.getD_eq_getElem?_getD, List.getElem?_take, if_pos (by omega), ← List.getD_eq_getElem?_getD])
  unfold apR at h1 ⊢
  rw [e, List.findSome?_append, h1]
  simp only [List.findSome?_cons, hc, Option.none_or]

/-- the cells of a row of triangles -/
theorem tri_cells {w : World} {B : Nat} {g cap : Nat} {T : List Tri3} (h : w.ownsRow B 45 3 (.slice (some ⟨g, 0, none⟩) T.length cap) T.length (cellsK encT T)) {i : Nat} (hi : i < T.length) :
    w.cell? ⟨g, i * 3, none⟩ = some (.int .i64 (T.getD i (0, 0, 0)).1) ∧ w.cell? ⟨g, i * 3 + 1, none⟩ = some (.int .i64 (T.getD i (0, 0, 0)).2.1) ∧ w.cell? ⟨g, i * 3 + 2, none⟩ = some (.int .i64 (T.getD i (0, 0, 0)).2.2) := by
  have e : T.getD i (0, 0, 0) = T[i] := by rw [List.getD_eq_getElem?_getD, List.getElem?_eq_getElem hi]; rfl
  have hk : ∀ x : Tri3, (encT x).length = 3 := fun _ => rfl
  rw [e, h.cellAt (i * 3) (by omega), h.cellAt (i * 3 + 1) (by omega), h.cellAt (i * 3 + 2) (by omega)]
  have h0 := cellsK_at hk T i hi 0 (by omega)
  rw [Nat.add_zero] at h0
  exact ⟨h0, cellsK_at hk T i hi 1 (by omega), cellsK_at hk T i hi 2 (by omega)⟩

/-- a triangle's corners by their number -/
def tvT (t : Tri3) (k : Nat) : Int := if k = 0 then t.1 else if k = 1 then t.2.1 else t.2.2
theorem apT_at {t : Tri3} {a b : Int} {k : Nat} (hk : k < 3) (h : ∀ j, j < k → ¬(tvT t j = a ∧ tvT t ((j + 1) % 3) = b)) (h1 : tvT t k = a) (h2 : tvT t ((k + 1) % 3) = b) : apT t a b = some (tvT t ((k + 2) % 3)) := by
  have h4 : k = 0 ∨ k = 1 ∨ k = 2 := by omega
  unfold apT
  rcases h4 with rfl | rfl | rfl
  · have h1' : t.1 = a := h1
    have h2' : t.2.1 = b := h2
    rw [if_pos ⟨h1', h2'⟩]; rfl
  · have e0 : ¬(t.1 = a ∧ t.2.1 = b) := h 0 (by omega)
    have h1' : t.2.1 = a := h1
    have h2' : t.2.2 = b := h2
    rw [if_neg e0, if_pos ⟨h1', h2'⟩]; rfl
  · have e0 : ¬(t.1 = a ∧ t.2.1 = b) := h 0 (by omega)
    have e1 : ¬(t.2.1 = a ∧ t.2.2 = b) := h 1 (by omega)
    have h1' : t.2.2 = a := h1
    have h2' : t.1 = b := h2
    rw [if_neg e0, if_neg e1, if_pos ⟨h1', h2'⟩]; rfl
theorem apT_no {t : Tri3} {a b : Int} (h : ∀ j, j < 3 → ¬(tvT t j = a ∧ tvT t ((j + 1) % 3) = b)) : apT t a b = none := by
  have e0 : ¬(t.1 = a ∧ t.2.1 = b) := h 0 (by omega)
  have e1 : ¬(t.2.1 = a ∧ t.2.2 = b) := h 1 (by omega)
  have e2 : ¬(t.2.2 = a ∧ t.1 = b) := h 2 (by omega)
  unfold apT
  rw [if_neg e0, if_neg e1, if_neg e2]

set_option maxRecDepth 100000 in
set_option maxHeartbeats 4000000 in
theorem apex15 {w : World} {B xb : Nat} {P : List Pt} {ad : Option Addr} {cap : Nat} {T : List Tri3} {vT : Value} {S : List Seg3} {vS : Value} (h : RMs w B xb P ad cap T vT S vS) (hT : T.length ≤ 1000000) (a b : Int) :
    Calls Tryz.prog 74 #[.pointer (some ⟨xb, 0, none⟩), .int .i64 a, .int .i64 b] w fun r w' => r = .returned (.tuple #[.int .i64 ((apR T a b).getD 0), .bool (apR T a b).isSome]) ∧ w' = w := by
  have c1 := h.cells.2.1
  have HT := Lib.hid hT
  obtain ⟨g, cp, n, hv, hn⟩ : ∃ g cp n, vT = .slice g n cp ∧ n = T.length := by
    rcases h.tri.2 with ⟨rfl, h0⟩ | ⟨g, cp, cur, rfl, _⟩
    · exact ⟨none, 0, 0, rfl, h0.symm⟩
    · exact ⟨_, _, _, rfl, rfl⟩
  subst hv
  have HG : Hid (∀ i, i < n → ∃ b, g = some ⟨b, 0, none⟩ ∧ ∀ k, k < 3 → w.cell? ⟨b, i * 3 + k, none⟩ = some (.int .i64 (tvT (T.getD i (0, 0, 0)) k))) := fun i hi => by
    have ho := h.tri
    rcases ho.2 with ⟨_, h0⟩ | ⟨b, cp', cur, e, _⟩
    · omega
    · cases e
      obtain ⟨x0, x1, x2⟩ := tri_cells ho (i := i) (by omega)
      refine ⟨b, rfl, fun k hk => ?_⟩
      have h4 : k = 0 ∨ k = 1 ∨ k = 2 := by omega
      rcases h4 with rfl | rfl | rfl
      · exact x0
      · exact x1
      · exact x2
  have HF : Hid (∀ i c, i < n → (∀ j, j < i → apT (T.getD j (0, 0, 0)) a b = none) → apT (T.getD i (0, 0, 0)) a b = some c → apR T a b = some c) := fun i c hi h1 h2 => apR_at (by omega) h1 h2
  have HNO : Hid ((∀ j, j < n → apT (T.getD j (0, 0, 0)) a b = none) → apR T a b = none) := fun h1 => apR_none (fun j hj => h1 j (by omega))
  have HN : Hid (n ≤ 1000000) := by have := HT.out; unfold Hid; omega
  clear h hT HT hn
  generalize apR T a b = RR at *
  go_enter Tryz.func74, Tryz.ntmps74
  go_wp2
  go_loop [8] (fun s8 => ∃ i : Nat, i ≤ n ∧ s8 = .int .i64 i ∧ Hid (∀ j, j < i → apT (T.getD j (0, 0, 0)) a b = none)) (fun s8 => n - (intOf s8).toNat)
  case atStart => exact ⟨0, Nat.zero_le _, rfl, fun j hj => absurd hj (by omega)⟩
  case round =>
    obtain ⟨i, hi, rfl, HI⟩ := hrel
    by_cases hlt : i < n
    · obtain ⟨bb, rfl, hcell⟩ := HG.out i hlt
      have HC := Lib.hid hcell
      have HF2 := Lib.hid (fun c => HF.out i c hlt HI.out)
      have hz : (i : Int) < (n : Int) := by omega
      have hi0 : (0 : Int) ≤ (i : Int) := by omega
      have HN2 : Hid (apT (T.getD i (0, 0, 0)) a b = none → ∀ j, j < i + 1 → apT (T.getD j (0, 0, 0)) a b = none) := fun h0 j hj => by
        rcases Nat.lt_or_ge j i with q | q
        · exact HI.out j q
        · rw [show j = i by omega]; exact h0
      have HAP : Hid ((∀ j, j < 3 → ¬(tvT (T.getD i (0, 0, 0)) j = a ∧ tvT (T.getD i (0, 0, 0)) ((j + 1) % 3) = b)) → apT (T.getD i (0, 0, 0)) a b = none) := apT_no
      have HAT : Hid (∀ k, k < 3 → (∀ j, j < k → ¬(tvT (T.getD i (0, 0, 0)) j = a ∧ tvT (T.getD i (0, 0, 0)) ((j + 1) % 3) = b)) → tvT (T.getD i (0, 0, 0)) k = a → tvT (T.getD i (0, 0, 0)) ((k + 1) % 3) = b → apT (T.getD i (0, 0, 0)) a b = some (tvT (T.getD i (0, 0, 0)) ((k + 2) % 3))) := fun k => apT_at
      clear hcell
      go_wp2
      go_loop [9] (fun s9 => ∃ k : Nat, k ≤ 3 ∧ s9 = .int .i64 k ∧ Hid (∀ j, j < k → ¬(tvT (T.getD i (0, 0, 0)) j = a ∧ tvT (T.getD i (0, 0, 0)) ((j + 1) % 3) = b))) (fun s9 => 3 - (intOf s9).toNat)
      case atStart => exact ⟨0, by omega, rfl, fun j hj => absurd hj (by omega)⟩
      case round =>
        obtain ⟨k, hk, rfl, HK⟩ := hrel
        by_cases hk3 : k < 3
        · have hkz : (k : Int) < 3 := by omega
          have hk0 : (0 : Int) ≤ (k : Int) := by omega
          have x0 := HC.out k hk3
          have x1 := HC.out ((k + 1) % 3) (by omega)
          have x2 := HC.out ((k + 2) % 3) (by omega)
          have HKN : Hid (¬(tvT (T.getD i (0, 0, 0)) k = a ∧ tvT (T.getD i (0, 0, 0)) ((k + 1) % 3) = b) → ∀ j, j < k + 1 → ¬(tvT (T.getD i (0, 0, 0)) j = a ∧ tvT (T.getD i (0, 0, 0)) ((j + 1) % 3) = b)) := fun h0 j hj => by
            rcases Nat.lt_or_ge j k with q | q
            · exact HK.out j q
            · rw [show j = k by omega]; exact h0
          have HRR := Lib.hid (fun h1 h2 => HF2.out _ (HAT.out k hk3 HK.out h1 h2))
          have hw1 : wrap64 ((k : Int) + 1) = (k : Int) + 1 := by unfold wrap64; omega
          have hw2 : wrap64 ((k : Int) + 2) = (k : Int) + 2 := by unfold wrap64; omega
          have hm1 : ((k : Int) + 1).tmod 3 = (((k + 1) % 3 : Nat) : Int) := by rw [Int.tmod_eq_emod_of_nonneg (by omega)]; omega
          have hm2 : ((k : Int) + 2).tmod 3 = (((k + 2) % 3 : Nat) : Int) := by rw [Int.tmod_eq_emod_of_nonneg (by omega)]; omega
          have hy0 : (0 : Int) ≤ (((k + 1) % 3 : Nat) : Int) := by omega
          have hy1 : (((k + 1) % 3 : Nat) : Int) < 3 := by omega
          have hz0 : (0 : Int) ≤ (((k + 2) % 3 : Nat) : Int) := by omega
          have hz1 : (((k + 2) % 3 : Nat) : Int) < 3 := by omega
          generalize tvT (T.getD i (0, 0, 0)) k = u at x0 HKN HRR
          generalize tvT (T.getD i (0, 0, 0)) ((k + 1) % 3) = v at x1 HKN HRR
          generalize tvT (T.getD i (0, 0, 0)) ((k + 2) % 3) = z at x2 HRR
          generalize (k + 1) % 3 = k1 at *
          generalize (k + 2) % 3 = k2 at *
          by_cases e1 : u = a
          · by_cases e2 : v = b
            · have HR := Lib.hid (HRR.out e1 e2)
              go_wp2
              go_ret2
              rw [HR.out]
              exact ⟨rfl, rfl⟩
            · have HR := Lib.hid (HKN.out (fun e => e2 e.2))
              go_wp2
              go_round
              case rel => exact ⟨k + 1, by omega, by (try rw [hw1]); rfl, HR.out⟩
              case measure => (try rw [hw1]); simp only [intOf]; omega
          · have HR := Lib.hid (HKN.out (fun e => e1 e.1))
            go_wp2
            go_round
            case rel => exact ⟨k + 1, by omega, by (try rw [hw1]); rfl, HR.out⟩
            case measure => (try rw [hw1]); simp only [intOf]; omega
        · have e : k = 3 := by omega
          subst e
          have HR := Lib.hid (HN2.out (HAP.out HK.out))
          have hw1 : wrap64 ((i : Int) + 1) = (i : Int) + 1 := by have := HN.out; unfold wrap64; omega
          go_wp2
          go_round
          case rel => exact ⟨i + 1, by omega, by (try rw [hw1]); rfl, HR.out⟩
          case measure => (try rw [hw1]); simp only [intOf]; omega
    · have e : i = n := by omega
      subst e
      have hz : ¬(i : Int) < (i : Int) := by omega
      have HR := Lib.hid (HNO.out HI.out)
      go_wp2
      go_ret2
      rw [HR.out]
      exact ⟨rfl, rfl⟩

end Go.Proofs.YtdoaniccefdkaaaGreatDoor
