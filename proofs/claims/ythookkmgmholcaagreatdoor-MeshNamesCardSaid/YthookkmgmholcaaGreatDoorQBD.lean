/- The contracts of MeshNames' calls. -/
import Derived.Test.YthookkmgmholcaaGreatDoorQBB
import Derived.Test.YthookkmgmholcaaGreatDoorQBC
import Derived.Test.YthookkmgmholcaaGreatDoorQB5
import Derived.Test.YthookkmgmholcaaGreatDoorQB4
namespace Go.Proofs.YthookkmgmholcaaGreatDoor
open Go.RowKit Go.Maps Go.WideMaps

theorem MB.up {w0 w1 w2 : World} {mb n : Nat} {M : MeshM} {F : Nat → Prop} (h : MB w1 w2 mb n M F) (hb : Below w0.heap.size w0 w1) : MB w0 w2 mb n M F :=
  ⟨h.at_, fun i hi => Nat.le_trans hb.size (h.new i hi), hb.trans (h.keep.mono hb.size)⟩
theorem MB.same {w0 w : World} {mb n : Nat} {M M' : MeshM} {F : Nat → Prop} (h : MB w0 w mb n M F) (e : M = M') : MB w0 w mb n M' F := e ▸ h

theorem kcells_new (w : World) (T : List Tri3) (t : TypeId) : KCells encT (w.alloc (.cells (cellsK encT T).toArray t)) (some ⟨w.heap.size, 0, none⟩) T := by
  intro _
  refine ⟨_, rfl, by simp, fun j u hu => ?_⟩
  have := cells_new w (cellsK encT T) t j u hu
  rwa [addr_add0] at this

theorem PCells.alloc {w : World} {ad : Option Addr} {l : List Pt} (h : PCells w ad l) (o : Obj) : PCells (w.alloc o) ad l := h.below ((Below.refl _ w).alloc (Nat.le_refl _) o)

theorem of_names1 {w w1 : World} {g : Nat} (hb : Below w.heap.size w w1) (hp : PCells w1 (some ⟨g, 0, none⟩) sqP) :
    Calls Tryz.prog 14 #[.slice (some ⟨g, 0, none⟩) 4 4, .slice (some ⟨w1.heap.size, 0, none⟩) 1 1] (w1.alloc (.cells #[.int .i64 2, .int .i64 0, .int .i64 1] 32)) fun r w' => ∃ mb F, r = .returned (.tuple #[.pointer (some ⟨mb, 0, none⟩), .int .i64 0]) ∧ Hid (MB w w' mb 3 nmA F) := by
  refine (of_ok sqP (some ⟨g, 0, none⟩) 4 [(2, 0, 1)] (some ⟨w1.heap.size, 0, none⟩) 1 sq_64 sq_all (by rw [sqP_len]; omega) (by decide) nm_allOk (w1.alloc (.cells #[.int .i64 2, .int .i64 0, .int .i64 1] 32)) (hp.alloc _) (kcells_new w1 [(2, 0, 1)] _)).mono ?_
  rintro r w' ⟨mb, F, rfl, hm⟩
  exact ⟨mb, F, rfl, (hm.same nm_fold).up (hb.alloc hb.size _)⟩

theorem of_names2 {w1 : World} {g : Nat} (hp : PCells w1 (some ⟨g, 0, none⟩) sqP) :
    Calls Tryz.prog 14 #[.slice (some ⟨g, 0, none⟩) 4 4, .slice (some ⟨w1.heap.size, 0, none⟩) 2 2] (w1.alloc (.cells #[.int .i64 0, .int .i64 1, .int .i64 2, .int .i64 0, .int .i64 1, .int .i64 3] 32)) fun r w' => r = .returned (.tuple #[.pointer none, .int .i64 14]) ∧ Below w1.heap.size w1 w' := by
  refine (of_stop sqP (some ⟨g, 0, none⟩) 4 [(0, 1, 2), (0, 1, 3)] (some ⟨w1.heap.size, 0, none⟩) 2 sq_64 sq_all (by rw [sqP_len]; omega) (by decide) 1 (by decide) 14 ?_ ?_ (by decide) (w1.alloc (.cells #[.int .i64 0, .int .i64 1, .int .i64 2, .int .i64 0, .int .i64 1, .int .i64 3] 32)) (hp.alloc _) (kcells_new w1 [(0, 1, 2), (0, 1, 3)] _)).mono ?_
  · intro k hk
    obtain rfl : k = 0 := by omega
    have e : foldM (emptyM sqP) (List.take 0 [(0, 1, 2), (0, 1, 3)]) = emptyM sqP := by simp only [List.take_zero, foldM_nil]
    rw [e]
    exact sq_c1
  · have e : foldM (emptyM sqP) (List.take 1 [(0, 1, 2), (0, 1, 3)]) = sq1 := by simp only [List.take_succ_cons, List.take_zero, foldM_cons, foldM_nil, sq1]
    rw [e]
    exact nm_c1
  · rintro r w' ⟨rfl, hb'⟩
    exact ⟨rfl, below_drop hb'⟩

theorem of_names3 {w w1 : World} {g : Nat} (hb : Below w.heap.size w w1) (hp : PCells w1 (some ⟨g, 0, none⟩) sqP) :
    Calls Tryz.prog 14 #[.slice (some ⟨g, 0, none⟩) 4 4, .slice (some ⟨w1.heap.size, 0, none⟩) 2 2] (w1.alloc (.cells #[.int .i64 0, .int .i64 1, .int .i64 2, .int .i64 1, .int .i64 3, .int .i64 2] 32)) fun r w' => ∃ mb F, r = .returned (.tuple #[.pointer (some ⟨mb, 0, none⟩), .int .i64 0]) ∧ Hid (MB w w' mb 6 sqM F) := by
  refine (of_ok sqP (some ⟨g, 0, none⟩) 4 [(0, 1, 2), (1, 3, 2)] (some ⟨w1.heap.size, 0, none⟩) 2 sq_64 sq_all (by rw [sqP_len]; omega) (by decide) sq_allOk (w1.alloc (.cells #[.int .i64 0, .int .i64 1, .int .i64 2, .int .i64 1, .int .i64 3, .int .i64 2] 32)) (hp.alloc _) (kcells_new w1 [(0, 1, 2), (1, 3, 2)] _)).mono ?_
  rintro r w' ⟨mb, F, rfl, hm⟩
  exact ⟨mb, F, rfl, (hm.same sq_fold).up (hb.alloc hb.size _)⟩

theorem new_nan (w1 : World) :
    Calls Tryz.prog 48 #[.slice (some ⟨w1.heap.size, 0, none⟩) 1 1] (w1.alloc (.cells #[.float .f64 9221120237041090561, .float .f64 0] 25)) fun r w' => r = .returned (.tuple #[.pointer none, .int .i64 10]) ∧ Below w1.heap.size w1 w' := by
  have hk : allCode [((9221120237041090561, 0) : Pt)] = 10 := by decide +kernel
  have h64 : ∀ p, p ∈ [((9221120237041090561, 0) : Pt)] → pt64 p := by
    intro p hp
    simp only [List.mem_cons, List.not_mem_nil, or_false] at hp
    subst hp
    unfold pt64; decide
  have := new_bad [(9221120237041090561, 0)] (some ⟨w1.heap.size, 0, none⟩) 1 h64 (by rw [hk]; decide) (w1.alloc (.cells #[.float .f64 9221120237041090561, .float .f64 0] 25)) (by
    intro _
    refine ⟨_, 0, rfl, by simp, fun i hi => ?_⟩
    have : i = 0 := by simpa using hi
    subst this
    exact ⟨by rw [World.cell?_alloc_at _ _ _ _ rfl]; rfl, by rw [World.cell?_alloc_at _ _ _ _ rfl]; rfl⟩)
  rw [hk] at this
  refine this.mono ?_
  rintro r w' ⟨rfl, hb⟩
  exact ⟨rfl, below_drop hb⟩

/-- a Make that is refused -/
theorem make_no {w0 w : World} {mb n : Nat} {M : MeshM} {F : Nat → Prop} (h : Hid (MB w0 w mb n M F)) (hP : M.P = sqP) (hn : n ≤ 1000) (a b c k : Int) (hk : makeCode M a b c = k) (hk0 : k ≠ 0) :
    Calls Tryz.prog 43 #[.pointer (some ⟨mb, 0, none⟩), .int .i64 a, .int .i64 b, .int .i64 c] w fun r w' => r = .returned (.int .i64 k) ∧ ∃ G, Hid (MB w0 w' mb (n + 3) M G) := by
  refine (make_mb h.out (by rw [hP]; exact sq_64) (by rw [hP, sqP_len]; omega) (by omega) a b c).mono ?_
  rintro r w' ⟨rfl, hm, _⟩
  exact ⟨by rw [hk], _, hm.same (makeR_no (by rw [hk]; exact hk0))⟩

theorem small0 : i64ok 0 := by unfold i64ok; omega
theorem small1 : i64ok 1 := by unfold i64ok; omega
theorem small2 : i64ok 2 := by unfold i64ok; omega
theorem small3 : i64ok 3 := by unfold i64ok; omega

theorem kill_yes {w0 w : World} {mb n : Nat} {M : MeshM} {F : Nat → Prop} (h : Hid (MB w0 w mb n M F)) (hn : n ≤ 1000) {a b c : Int} (ha : i64ok a) (hb : i64ok b) (hc : i64ok c) (k : Int) (hk : killCode M a b c = k) {M' : MeshM} (e : killR M a b c = M') :
    Calls Tryz.prog 44 #[.pointer (some ⟨mb, 0, none⟩), .int .i64 a, .int .i64 b, .int .i64 c] w fun r w' => r = .returned (.int .i64 k) ∧ ∃ G, Hid (MB w0 w' mb (n + 3) M' G) := by
  refine (kill_mb h.out (by omega) ha hb hc).mono ?_
  rintro r w' ⟨rfl, hm, _⟩
  exact ⟨by rw [hk], _, hm.same e⟩

theorem fix_nm {w0 w : World} {mb n : Nat} {F : Nat → Prop} (h : Hid (MB w0 w mb n nmB F)) (hn : n ≤ 1000) :
    Calls Tryz.prog 15 #[.pointer (some ⟨mb, 0, none⟩), .int .i64 1, .int .i64 0, .int .i64 5] w fun r w' => r = .returned (.int .i64 0) ∧ Hid (MB w0 w' mb (n + 1) nmC F) := by
  refine (fix_ok (v := 5) h.out (by omega) small1 small0 nm_h1 nm_h0 (by decide)).mono ?_
  rintro r w' ⟨rfl, hm⟩
  exact ⟨rfl, hm.same (by rw [nmC])⟩

/-- two meshes side by side -/
structure Two (w0 w : World) (mb n : Nat) (M : MeshM) (F : Nat → Prop) (mb2 n2 : Nat) (M2 : MeshM) (F2 : Nat → Prop) : Prop where
  a : MB w0 w mb n M F
  b : MB w0 w mb2 n2 M2 F2
  off : ∀ i, F2 i → ¬F i

theorem Two.below {w0 w w' : World} {mb n : Nat} {M : MeshM} {F : Nat → Prop} {mb2 n2 : Nat} {M2 : MeshM} {F2 : Nat → Prop} (h : Two w0 w mb n M F mb2 n2 M2 F2) (hb : Below w.heap.size w w') : Two w0 w' mb n M F mb2 n2 M2 F2 :=
  ⟨h.a.below hb, h.b.below hb, h.off⟩
theorem Two.turn {w0 w w' : World} {mb n n' : Nat} {M M' : MeshM} {F : Nat → Prop} {mb2 n2 : Nat} {M2 : MeshM} {F2 : Nat → Prop} (h : Two w0 w mb n M F mb2 n2 M2 F2) (hm : MB w0 w' mb n' M' (Fx F w w')) (hs : Stay F w w') : Two w0 w' mb n' M' (Fx F w w') mb2 n2 M2 F2 :=
  ⟨hm, h.b.apart hs hm.keep h.off, fun i hi e => e.elim (h.off i hi) (fun e => by have := h.b.at_.flt i hi; omega)⟩

theorem copy_two {w0 w : World} {mb n : Nat} {M : MeshM} {F : Nat → Prop} (h : Hid (MB w0 w mb n M F)) (hl : M.P.length ≤ 1048576) (hn : n ≤ 1000000000) :
    Calls Tryz.prog 55 #[.pointer (some ⟨mb, 0, none⟩)] w fun r w' => ∃ mb2 F2, r = .returned (.pointer (some ⟨mb2, 0, none⟩)) ∧ Hid (Two w0 w' mb n M F mb2 n M F2) := by
  refine (copy_walk h.out.at_ hl hn).mono ?_
  rintro r w' ⟨mb2, rfl, hm, hb⟩
  have h1 := h.out.below hb
  exact ⟨mb2, _, rfl, h1, ⟨hm, fun i hi => Nat.le_trans h.out.keep.size hi.1, h1.keep⟩, fun i hi e => by have := h.out.at_.flt i e; have := hi.1; omega⟩

theorem two_kill {w0 w : World} {mb n : Nat} {M : MeshM} {F : Nat → Prop} {mb2 n2 : Nat} {M2 : MeshM} {F2 : Nat → Prop} (h : Hid (Two w0 w mb n M F mb2 n2 M2 F2)) (hn : n ≤ 1000000000) {a b c : Int} (ha : i64ok a) (hb : i64ok b) (hc : i64ok c) (k : Int) (hk : killCode M a b c = k) {M' : MeshM} (e : killR M a b c = M') :
    Calls Tryz.prog 44 #[.pointer (some ⟨mb, 0, none⟩), .int .i64 a, .int .i64 b, .int .i64 c] w fun r w' => r = .returned (.int .i64 k) ∧ ∃ G, Hid (Two w0 w' mb (n + 3) M' G mb2 n2 M2 F2) := by
  refine (kill_mb h.out.a hn ha hb hc).mono ?_
  rintro r w' ⟨rfl, hm, hs⟩
  exact ⟨by rw [hk], _, h.out.turn (hm.same e) hs⟩

theorem two_make {w0 w : World} {mb n : Nat} {M : MeshM} {F : Nat → Prop} {mb2 n2 : Nat} {M2 : MeshM} {F2 : Nat → Prop} (h : Hid (Two w0 w mb n M F mb2 n2 M2 F2)) (h64 : ∀ p, p ∈ M.P → pt64 p) (hl : M.P.length ≤ 1048576) (hn : n ≤ 1000000000) (a b c k : Int) (hk : makeCode M a b c = k) :
    Calls Tryz.prog 43 #[.pointer (some ⟨mb, 0, none⟩), .int .i64 a, .int .i64 b, .int .i64 c] w fun r w' => r = .returned (.int .i64 k) ∧ ∃ G, Hid (Two w0 w' mb (n + 3) (makeR M a b c) G mb2 n2 M2 F2) := by
  refine (make_mb h.out.a h64 hl hn a b c).mono ?_
  rintro r w' ⟨rfl, hm, hs⟩
  exact ⟨by rw [hk], _, h.out.turn hm hs⟩

theorem two_spokes_a {w0 w : World} {mb n : Nat} {M : MeshM} {F : Nat → Prop} {mb2 n2 : Nat} {M2 : MeshM} {F2 : Nat → Prop} (h : Hid (Two w0 w mb n M F mb2 n2 M2 F2)) (hs : Sound M) (hP : M.P = sqP) (hn : n ≤ 1000000000) {a : Int} (ha : i64ok a) (k : Nat) (hk : (spokesL M a).length = k) :
    Calls Tryz.prog 58 #[.pointer (some ⟨mb, 0, none⟩), .int .i64 a] w fun r w' => ∃ ad cap, r = .returned (.slice ad k cap) ∧ Hid (Two w0 w' mb n M F mb2 n2 M2 F2) := by
  refine (spokes_mb h.out.a hs (by rw [hP, sqP_len]; omega) hn ha).mono ?_
  rintro r w' ⟨ad, cap, rfl, _, hb⟩
  exact ⟨ad, cap, by rw [hk], h.out.below hb⟩
theorem two_spokes_b {w0 w : World} {mb n : Nat} {M : MeshM} {F : Nat → Prop} {mb2 n2 : Nat} {M2 : MeshM} {F2 : Nat → Prop} (h : Hid (Two w0 w mb n M F mb2 n2 M2 F2)) (hs : Sound M2) (hP : M2.P = sqP) (hn : n2 ≤ 1000000000) {a : Int} (ha : i64ok a) (k : Nat) (hk : (spokesL M2 a).length = k) :
    Calls Tryz.prog 58 #[.pointer (some ⟨mb2, 0, none⟩), .int .i64 a] w fun r w' => ∃ ad cap, r = .returned (.slice ad k cap) ∧ Hid (Two w0 w' mb n M F mb2 n2 M2 F2) := by
  refine (spokes_mb h.out.b hs (by rw [hP, sqP_len]; omega) hn ha).mono ?_
  rintro r w' ⟨ad, cap, rfl, _, hb⟩
  exact ⟨ad, cap, by rw [hk], h.out.below hb⟩

end Go.Proofs.YthookkmgmholcaaGreatDoor
