/- trivetlaw15.MeshUndone: the walk. -/
import Derived.Test.YthookkmgmholcaaGreatDoorZD
namespace Go.Proofs.YthookkmgmholcaaGreatDoor
open Go.RowKit Go.Maps Go.WideMaps

/-- the mesh, and two lists of the caller's that it does not lead to -/
structure Und (w0 w : World) (mb n : Nat) (M : MeshM) (F : Nat → Prop) (T : List Tri3) (E : List (Int × Int)) (ta ea : Option Addr) : Prop where
  mb : MB w0 w mb n M F
  t : KCells encT w ta T
  e : KCells encP w ea E
  ta : ∀ g, ta = some g → ¬F g.block ∧ g.block < w.heap.size
  ea : ∀ g, ea = some g → ¬F g.block ∧ g.block < w.heap.size

theorem Und.stay {w0 w w' : World} {mb n n' : Nat} {M M' : MeshM} {F : Nat → Prop} {T : List Tri3} {E : List (Int × Int)} {ta ea : Option Addr} (h : Und w0 w mb n M F T E ta ea) (hm : MB w0 w' mb n' M' (Fx F w w')) (hs : Stay F w w') :
    Und w0 w' mb n' M' (Fx F w w') T E ta ea := by
  refine ⟨hm, h.t.stay hs fun g hg => (h.ta g hg).1, h.e.stay hs fun g hg => (h.ea g hg).1, fun g hg => ⟨?_, Nat.lt_of_lt_of_le (h.ta g hg).2 hs.size⟩, fun g hg => ⟨?_, Nat.lt_of_lt_of_le (h.ea g hg).2 hs.size⟩⟩
  · rintro (e | e)
    · exact (h.ta g hg).1 e
    · have := (h.ta g hg).2; omega
  · rintro (e | e)
    · exact (h.ea g hg).1 e
    · have := (h.ea g hg).2; omega
theorem Und.drew {w0 w : World} {mb n : Nat} {M : MeshM} {F : Nat → Prop} {T : List Tri3} {E : List (Int × Int)} {ta ea : Option Addr} (h : Und w0 w mb n M F T E ta ea) : Und w0 w.drew mb n M F T E ta ea :=
  ⟨h.mb.drew, h.t, h.e, h.ta, h.ea⟩

/-- what Kill's and Make's arguments read -/
def Rd3 (w : World) (b k : Nat) (x y z : Int) : Prop := w.cell? ⟨b, k * 3, none⟩ = some (.int .i64 x) ∧ w.cell? ⟨b, k * 3 + 1, none⟩ = some (.int .i64 y) ∧ w.cell? ⟨b, k * 3 + 2, none⟩ = some (.int .i64 z)
theorem Und.rd {w0 w : World} {mb n : Nat} {M : MeshM} {F : Nat → Prop} {T : List Tri3} {E : List (Int × Int)} {ta ea : Option Addr} (h : Und w0 w mb n M F T E ta ea) {k : Nat} (hk : k < T.length) {g : Nat} (hg : ta = some ⟨g, 0, none⟩) {x y z : Int} (ht : T.getD k (0, 0, 0) = (x, y, z)) : Rd3 w g k x y z := by
  obtain ⟨g', e, _, a, b, c⟩ := h.t.tri hk
  rw [hg] at e; cases e
  rw [ht] at a b c
  exact ⟨a, b, c⟩

theorem sound_cnt {M : MeshM} (h : Sound M) : M.cnt = (trisL M.ap M.P.length).length := by
  have h1 := three_tris h.win h.rot
  have h2 := h.cnt
  omega

set_option maxRecDepth 100000 in
set_option maxHeartbeats 1000000 in
theorem undone_big (l : List Pt) (ad : Option Addr) (cap : Nat) (T : List Tri3) (at_ : Option Addr) (capt : Nat) (m0 m1 m2 : Int) (hb : 100 < l.length ∨ 200 < T.length) (w : World) :
    Calls Tryz.prog 9 #[.slice ad l.length cap, .slice at_ T.length capt, .agg #[.int .i64 m0, .int .i64 m1, .int .i64 m2]] w fun r w' => r = .returned (.bool true) ∧ Below w.heap.size w w' := by
  have HW := Lib.hid works_walk
  have wa : Below w.heap.size w (w.alloc (.cells #[.int .i64 m0, .int .i64 m1, .int .i64 m2] 32)) := (Below.refl _ w).alloc (Nat.le_refl _) _
  by_cases h1 : 100 < l.length
  · have h1z : (100 : Int) < l.length := by omega
    clear hb
    go_enter Tryz.func9, Tryz.ntmps9
    go_wp2_with (go_at_call 36; with_reducible refine (HW.out _).mono ?_; rintro r w1 ⟨rfl, hb1⟩; have wa := wa.trans (hb1.mono wa.size))
    go_ret
    exact ⟨rfl, wa⟩
  · have h2 : 200 < T.length := hb.resolve_left h1
    have h1z : ¬(100 : Int) < l.length := by omega
    have h2z : (200 : Int) < T.length := by omega
    clear hb
    go_enter Tryz.func9, Tryz.ntmps9
    go_wp2_with (go_at_call 36; with_reducible refine (HW.out _).mono ?_; rintro r w1 ⟨rfl, hb1⟩; have wa := wa.trans (hb1.mono wa.size))
    go_ret
    exact ⟨rfl, wa⟩

set_option maxRecDepth 100000 in
set_option maxHeartbeats 1000000 in
theorem undone_nil (l : List Pt) (ad : Option Addr) (cap : Nat) (T : List Tri3) (at_ : Option Addr) (capt : Nat) (m0 m1 m2 : Int) (h1 : l.length ≤ 100) (h2 : T.length ≤ 200) (h64 : ∀ p, p ∈ l → pt64 p) (hk : allCode l ≠ 0) (w : World) (hc : PCells w ad l) :
    Calls Tryz.prog 9 #[.slice ad l.length cap, .slice at_ T.length capt, .agg #[.int .i64 m0, .int .i64 m1, .int .i64 m2]] w fun r w' => r = .returned (.bool true) ∧ Below w.heap.size w w' := by
  have HW := Lib.hid works_walk
  have wa : Below w.heap.size w (w.alloc (.cells #[.int .i64 m0, .int .i64 m1, .int .i64 m2] 32)) := (Below.refl _ w).alloc (Nat.le_refl _) _
  have HN := Lib.hid (fun w1 (hb : Below w.heap.size w w1) => made_nil l ad cap (.slice at_ T.length capt) h64 hk w1 (hc.below hb))
  have h1z : ¬(100 : Int) < l.length := by omega
  have h2z : ¬(200 : Int) < T.length := by omega
  clear h64 hk hc
  go_enter Tryz.func9, Tryz.ntmps9
  go_wp2_with (first
    | (go_at_call 36; with_reducible refine (HW.out _).mono ?_; rintro r w1 ⟨rfl, hb1⟩; have wa := wa.trans (hb1.mono wa.size))
    | (go_at_call 37; with_reducible refine (HN.out _ wa).mono ?_; rintro r w2 ⟨rfl, hb2⟩; have wa := wa.trans (hb2.mono wa.size)))
  go_ret
  exact ⟨rfl, wa⟩

end Go.Proofs.YthookkmgmholcaaGreatDoor
