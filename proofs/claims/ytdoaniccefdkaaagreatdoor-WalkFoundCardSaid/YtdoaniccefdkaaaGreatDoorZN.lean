/- Part of the proof. No conditions. -/
import Derived.Test.YtdoaniccefdkaaaGreatDoorZL
import Derived.Test.YtdoaniccefdkaaaGreatDoorZM
import Derived.Deep.AppendLies
import Derived.StillTailTactics
import Derived.BigRegion
import Derived.Deep.RegionHeld3
import Derived.Deep.CutRange

set_option linter.all false
/- trivetlaw16.WalkFound: the walk (under way). -/
namespace Go.Proofs.YtdoaniccefdkaaaGreatDoor
open Go.RowKit Tvf Go.Maps Go.WideMaps

def encF (p : Pt) : List Value := [.float .f64 p.1, .float .f64 p.2]
theorem encF_one (x : Pt) : ∀ v ∈ encF x, v.oneCell' = true := by
  intro v hv
  simp [encF] at hv
  rcases hv with rfl | rfl <;> rfl
theorem encF_len (x : Pt) : (encF x).length = 2 := rfl
theorem take_mapF (n : List (Int × Int)) (k : Nat) (h : k < n.length) : (n.take (k + 1)).map pt6 = (n.take k).map pt6 ++ [pt6 (n.getD k (0, 0))] := by
  rw [List.take_add_one, List.map_append, List.getD_eq_getElem?_getD, List.getElem?_eq_getElem h]; rfl
@[go_sem] theorem f64_ofInt (n : Int) : floatOfInt .f64 n = fconv n := by first | rfl | (unfold floatOfInt fconv; rfl)
theorem fin_six : fin 4618441417868443648 := wh_six.1
theorem fin_conv16 {a : Int} (h : -32768 ≤ a ∧ a ≤ 32767) : fin (fconv a) := (wh_conv (by omega)).1
theorem kcells_pts {w : World} {ad : Option Addr} {l : List Pt} (h : KCells encF w ad l) : PCells w ad l := by
  intro hl
  obtain ⟨g, rfl, hg, hc⟩ := h hl
  refine ⟨g, 0, rfl, hg, fun i hi => ?_⟩
  have e : l.getD i (0, 0) = l[i] := by rw [List.getD_eq_getElem?_getD, List.getElem?_eq_getElem hi]; rfl
  have h0 := cellsK_at encF_len l i hi 0 (by decide)
  have h1 := cellsK_at encF_len l i hi 1 (by decide)
  rw [e]
  exact ⟨by have := hc _ _ h0; simpa using this, by have := hc _ _ h1; simpa using this⟩
/-- what the first region of the second loop reads -/
def Rd9 (W : World) (g i gl off a b c : Nat) (va vb vc ax ay bx bY cx cy : Value) : Prop :=
  W.cell? ⟨g, i * 3, none⟩ = some va ∧ W.cell? ⟨g, i * 3 + 1, none⟩ = some vb ∧ W.cell? ⟨g, i * 3 + 2, none⟩ = some vc ∧
  W.cell? ⟨gl, off + a * 2, none⟩ = some ax ∧ W.cell? ⟨gl, off + a * 2 + 1, none⟩ = some ay ∧ W.cell? ⟨gl, off + b * 2, none⟩ = some bx ∧ W.cell? ⟨gl, off + b * 2 + 1, none⟩ = some bY ∧ W.cell? ⟨gl, off + c * 2, none⟩ = some cx ∧ W.cell? ⟨gl, off + c * 2 + 1, none⟩ = some cy
theorem Rd9.alloc {W : World} {g i gl off a b c : Nat} {va vb vc ax ay bx bY cx cy : Value} (h : Rd9 W g i gl off a b c va vb vc ax ay bx bY cx cy) (o : Obj) : Rd9 (W.alloc o) g i gl off a b c va vb vc ax ay bx bY cx cy := by
  obtain ⟨h1, h2, h3, h4, h5, h6, h7, h8, h9⟩ := h
  exact ⟨Lib.cell?_alloc_some _ h1, Lib.cell?_alloc_some _ h2, Lib.cell?_alloc_some _ h3, Lib.cell?_alloc_some _ h4, Lib.cell?_alloc_some _ h5, Lib.cell?_alloc_some _ h6, Lib.cell?_alloc_some _ h7, Lib.cell?_alloc_some _ h8, Lib.cell?_alloc_some _ h9⟩
theorem Rd9.drew {W : World} {g i gl off a b c : Nat} {va vb vc ax ay bx bY cx cy : Value} (h : Rd9 W g i gl off a b c va vb vc ax ay bx bY cx cy) : Rd9 W.drew g i gl off a b c va vb vc ax ay bx bY cx cy := h

theorem box3 (W : World) (T : TypeId) (x y z : Array Value) :
    BoxN T (((W.alloc (.cells x T)).alloc (.cells y T)).alloc (.cells z T)).drew W.heap.size x ∧ BoxN T (((W.alloc (.cells x T)).alloc (.cells y T)).alloc (.cells z T)).drew (W.heap.size + 1) y ∧ BoxN T (((W.alloc (.cells x T)).alloc (.cells y T)).alloc (.cells z T)).drew (W.heap.size + 1 + 1) z := by
  have e1 : (W.alloc (.cells x T)).heap.size = W.heap.size + 1 := by simp
  have e2 : ((W.alloc (.cells x T)).alloc (.cells y T)).heap.size = W.heap.size + 1 + 1 := by simp
  have h1 := ((BoxN.new W x T).al (.cells y T)).al (.cells z T)
  have h2 := (BoxN.new (W.alloc (.cells x T)) y T).al (.cells z T)
  have h3 := BoxN.new ((W.alloc (.cells x T)).alloc (.cells y T)) z T
  rw [e1] at h2
  rw [e2] at h3
  exact ⟨h1, h2, h3⟩
theorem below3 {B : Nat} {w W : World} (h : Below B w W) (hB : B ≤ W.heap.size) (x y z : Obj) : Below B w (((W.alloc x).alloc y).alloc z).drew :=
  (((h.alloc hB x).alloc (by simp; omega) y).alloc (by simp; omega) z).drew

/-- the three corners in memory -/
def Cor3 (w0 W : World) (p q r : Nat) (ax ay bx bY cx cy : Value) : Prop :=
  (BoxN 52 W p #[ax, ay] ∧ BoxN 52 W q #[bx, bY] ∧ BoxN 52 W r #[cx, cy]) ∧ Below w0.heap.size w0 W
theorem Cor3.cells {w0 W : World} {p q r : Nat} {ax ay bx bY cx cy : Value} (h : Cor3 w0 W p q r ax ay bx bY cx cy) :
    W.cell? ⟨p, 0, none⟩ = some ax ∧ W.cell? ⟨p, 1, none⟩ = some ay ∧ W.cell? ⟨q, 0, none⟩ = some bx ∧ W.cell? ⟨q, 1, none⟩ = some bY ∧ W.cell? ⟨r, 0, none⟩ = some cx ∧ W.cell? ⟨r, 1, none⟩ = some cy :=
  ⟨h.1.1.c 0, h.1.1.c 1, h.1.2.1.c 0, h.1.2.1.c 1, h.1.2.2.c 0, h.1.2.2.c 1⟩
theorem Cor3.at {w0 W : World} {p q r : Nat} {ax ay bx bY cx cy : Value} (x y : Nat) (h : Hid (Cor3 w0 W p q r ax ay bx bY cx cy)) :
    Calls Tryz.prog 57 #[.float .f64 x, .float .f64 y] W fun e W' => e = .returned (.agg #[.float .f64 x, .float .f64 y]) ∧
      (W'.cell? ⟨p, 0, none⟩ = some ax ∧ W'.cell? ⟨p, 1, none⟩ = some ay ∧ W'.cell? ⟨q, 0, none⟩ = some bx ∧ W'.cell? ⟨q, 1, none⟩ = some bY ∧ W'.cell? ⟨r, 0, none⟩ = some cx ∧ W'.cell? ⟨r, 1, none⟩ = some cy) ∧ Hid (Cor3 w0 W' p q r ax ay bx bY cx cy) := by
  refine (at16_walk x y W).mono ?_
  rintro e W' ⟨rfl, hb⟩
  have h2 : Cor3 w0 W' p q r ax ay bx bY cx cy := ⟨⟨h.out.1.1.below hb, h.out.1.2.1.below hb, h.out.1.2.2.below hb⟩, h.out.2.trans (hb.mono h.out.2.size)⟩
  exact ⟨rfl, h2.cells, h2⟩

/-- the five points, as they are handed on -/
def fiveV (A B C : Pt) : Value := .agg #[.float .f64 A.1, .float .f64 A.2, .float .f64 (at2 A B).1, .float .f64 (at2 A B).2, .float .f64 (at2 B C).1, .float .f64 (at2 B C).2, .float .f64 (at2 A C).1, .float .f64 (at2 A C).2, .float .f64 (at3 A B C).1, .float .f64 (at3 A B C).2]
theorem idx5_0 (x0 x1 x2 x3 x4 x5 x6 x7 x8 x9 : Value) (w : World) : (Instr.index 105 (.agg #[x0, x1, x2, x3, x4, x5, x6, x7, x8, x9]) (.int .i64 0)).run Tryz.prog w = .ok (.agg #[x0, x1]) w := by kernel_rfl
theorem idx5_1 (x0 x1 x2 x3 x4 x5 x6 x7 x8 x9 : Value) (w : World) : (Instr.index 105 (.agg #[x0, x1, x2, x3, x4, x5, x6, x7, x8, x9]) (.int .i64 1)).run Tryz.prog w = .ok (.agg #[x2, x3]) w := by kernel_rfl
theorem idx5_2 (x0 x1 x2 x3 x4 x5 x6 x7 x8 x9 : Value) (w : World) : (Instr.index 105 (.agg #[x0, x1, x2, x3, x4, x5, x6, x7, x8, x9]) (.int .i64 2)).run Tryz.prog w = .ok (.agg #[x4, x5]) w := by kernel_rfl
theorem idx5_3 (x0 x1 x2 x3 x4 x5 x6 x7 x8 x9 : Value) (w : World) : (Instr.index 105 (.agg #[x0, x1, x2, x3, x4, x5, x6, x7, x8, x9]) (.int .i64 3)).run Tryz.prog w = .ok (.agg #[x6, x7]) w := by kernel_rfl
theorem idx5_4 (x0 x1 x2 x3 x4 x5 x6 x7 x8 x9 : Value) (w : World) : (Instr.index 105 (.agg #[x0, x1, x2, x3, x4, x5, x6, x7, x8, x9]) (.int .i64 4)).run Tryz.prog w = .ok (.agg #[x8, x9]) w := by kernel_rfl
theorem idx5 (A B C : Pt) {j : Nat} (hj : j < 5) (w : World) : (Instr.index 105 (fiveV A B C) (.int .i64 j)).run Tryz.prog w = .ok (.agg #[.float .f64 (fiveP A B C j).1, .float .f64 (fiveP A B C j).2]) w := by
  have h : j = 0 ∨ j = 1 ∨ j = 2 ∨ j = 3 ∨ j = 4 := by omega
  rcases h with rfl | rfl | rfl | rfl | rfl
  · exact idx5_0 _ _ _ _ _ _ _ _ _ _ w
  · exact idx5_1 _ _ _ _ _ _ _ _ _ _ w
  · exact idx5_2 _ _ _ _ _ _ _ _ _ _ w
  · exact idx5_3 _ _ _ _ _ _ _ _ _ _ w
  · exact idx5_4 _ _ _ _ _ _ _ _ _ _ w

theorem c_find5 {w0 w2 W : World} {mb m : Nat} {M : MeshM} {F : Nat → Prop} (h : MB w0 w2 mb m M F) (h64 : ∀ p, p ∈ M.P → pt64 p) (hs : Sound M) (hl : M.P.length ≤ 1048576) (hb : Below w2.heap.size w2 W) (p : Pt) (hk : ptOK p = true) (hp : pt64 p) (hf : ∀ s, (findM M p s).k ≠ 4) (z : Int) (hz : 0 ≤ z ∧ z < 18446744073709551616) :
    Calls Tryz.prog 51 #[.pointer (some ⟨mb, 0, none⟩), .agg #[.float .f64 p.1, .float .f64 p.2], .int .u64 z] W fun r w' => ∃ k a b c : Int, k ≠ 4 ∧ r = .returned (.tuple #[.agg #[.int .u8 k, .int .i64 a, .int .i64 b, .int .i64 c], .int .i64 0]) ∧ Hid (Below w2.heap.size w2 w') := by
  obtain ⟨s, rfl⟩ : ∃ s : Nat, z = s := ⟨z.toNat, by omega⟩
  refine (find_main (h.at_.below hb) h64 hs hl p hp hk s (by omega)).mono ?_
  rintro r w' ⟨rfl, hb2⟩
  exact ⟨_, _, _, _, hf s, rfl, hb.trans (hb2.mono hb.size)⟩

theorem u64_in (x : Int) : 0 ≤ IntKind.u64.wrap x ∧ IntKind.u64.wrap x < 18446744073709551616 := by rw [IntKind.wrap_u64]; omega

theorem row_next {w w2 w3 : World} {o : Obj} {v : Value} {T : TypeId} {k n : Nat} {xs : List Value} (hb : Below w.heap.size w w2) (ho : w2.ownsRow w.heap.size T k v n xs) (hg : (w2.alloc o).grownBy w3 v.ownBlock) : Below w.heap.size w w3 :=
  (hb.alloc hb.size o).grown hg (by have := hb.size; simp; omega) (fun k hk => (ho.lt k hk).1)
theorem at_keep {w wr : World} {T : TypeId} {k n : Nat} {xs : List Value} {v : Value} (x y : Nat) {p q : Addr} {u1 u2 : Value} (hp : ∀ W, Below w.heap.size w W → W.cell? p = some u1 ∧ W.cell? q = some u2) (ho : wr.ownsRow w.heap.size T k v n xs) (hb : Below w.heap.size w wr) :
    Calls Tryz.prog 57 #[.float .f64 x, .float .f64 y] wr fun r w' => r = .returned (.agg #[.float .f64 x, .float .f64 y]) ∧ (w'.cell? p = some u1 ∧ w'.cell? q = some u2) ∧ Hid (w'.ownsRow w.heap.size T k v n xs) ∧ Hid (Below w.heap.size w w') := by
  refine (at16_walk x y wr).mono ?_
  rintro r w' ⟨rfl, h⟩
  have hb2 := hb.trans (h.mono hb.size)
  exact ⟨rfl, hp _ hb2, ownsRow_same ho (fun g hg => h.block g (ho.lt g hg).2), hb2⟩

set_option maxRecDepth 100000 in
set_option maxHeartbeats 4000000 in
theorem found_main (n : List (Int × Int)) (ad : Option Addr) (cap : Nat) (T : List Tri3) (at_ : Option Addr) (capt : Nat) (seed : Nat) (hs : seed < 18446744073709551616) (h1 : n.length ≤ 40) (h2 : T.length ≤ 60) (hn : ∀ q, q ∈ n → i16ok q) (w : World) (hc : ICells w ad n) (hct : TCells w at_ T) :
    Calls Tryz.prog 12 #[.slice ad n.length cap, .slice at_ T.length capt, .int .u64 seed] w fun r w' => r = .returned (.bool true) ∧ Below w.heap.size w w' := by
  have HAW := Lib.hid awake16_walk
  have HAT := Lib.hid at16_walk
  have HN := Lib.hid hn
  have HL := Lib.hid h1
  have HTL := Lib.hid h2
  have HC := Lib.hid hc
  have HCT := Lib.hid hct
  have g1 : ¬(40 : Int) < (n.length : Int) := by omega
  have g2 : ¬(60 : Int) < (T.length : Int) := by omega
  have f6 := fin_six
  obtain ⟨i0, hi, hz0, hz1, hz2⟩ := info_parts infoPt
  clear hn h1 h2 hc hct
  go_enter Tryz.func12, Tryz.ntmps12
  go_wp2_with (go_at_call 49; with_reducible refine (HAW.out _).mono ?_; rintro r w1 ⟨rfl, hb1⟩; have HB1 := Lib.hid hb1; clear hb1)
  go_loopw [7, 8] (fun s7 s8 wr => ∃ k : Nat, k ≤ n.length ∧ s8 = .int .i64 k ∧ Hid (wr.ownsRow w.heap.size 52 2 s7 ((n.take k).map pt6).length (cellsK encF ((n.take k).map pt6))) ∧ Hid (Below w.heap.size w wr)) (fun _ s8 _ => n.length - (intOf s8).toNat)
  case atStart => exact ⟨0, Nat.zero_le _, rfl, World.ownsRow_nil _ _ _ _, HB1.out⟩
  case round =>
    obtain ⟨k, hk, rfl, HO, HB⟩ := hrel
    by_cases hlt : k < n.length
    · have HKL := Lib.hid hlt
      obtain ⟨b, off, rfl, hbl, hcc⟩ := HC.out (by omega)
      have HQ : Hid (∀ W, Below w.heap.size w W → W.cell? ⟨b, off + k * 2, none⟩ = some (.int .i16 (n.getD k (0, 0)).1) ∧ W.cell? ⟨b, off + k * 2 + 1, none⟩ = some (.int .i16 (n.getD k (0, 0)).2)) := fun W hb =>
        ⟨(hb.cell (p := ⟨b, off + k * 2, none⟩) hbl).trans (hcc k hlt).1, (hb.cell (p := ⟨b, off + k * 2 + 1, none⟩) hbl).trans (hcc k hlt).2⟩
      clear hcc hbl
      have HTS := Lib.hid (take_mapF n k hlt)
      have hi16 := i16_get HN.out hlt
      obtain ⟨q, hq⟩ : ∃ q, n.getD k (0, 0) = q := ⟨_, rfl⟩
      rw [hq] at HQ HTS hi16
      obtain ⟨qx, qy⟩ := q
      have fx := fin_conv16 hi16.1
      have fy := fin_conv16 hi16.2
      clear hq hi16
      dsimp only at *
      obtain ⟨q0, q1⟩ := HQ.out _ HB.out
      have HLen : Hid (((n.take k).map pt6).length ≤ 40) := by
        unfold Hid; rw [List.length_map, List.length_take]; have := HL.out; omega
      generalize (n.take k).map pt6 = GL at *
      go_wp2
      have HAK := Lib.hid (at_keep (w := w) (wr := wr.drew) (fmul 4618441417868443648 (fconv qx)) (fmul 4618441417868443648 (fconv qy)) HQ.out HO.out HB.out.drew)
      have hx1 : GL.length + 1 ≤ maxLen := by have := HLen.out; unfold maxLen; omega
      have hx2 : (GL.length + 1) * 16 ≤ 140737488355328 := by have := HLen.out; omega
      have n0 := HQ.out _ HB.out.drew
      go_region_held3 (fun w' => w'.cell? ⟨b, off + k * 2, none⟩ = some (.int .i16 qx) ∧ w'.cell? ⟨b, off + k * 2 + 1, none⟩ = some (.int .i16 qy)) (first | exact n0 | exact n1 | exact HQ.out _ (HB2.out.alloc HB2.out.size _) | exact HQ.out _ HB9.out | assumption)
        (first
          | (go_at_call 57; with_reducible refine HAK.out.mono ?_; rintro r w2 ⟨rfl, n1, HO2, HB2⟩)
          | (refine step_append_lies _ rfl _ _ 22 rfl w.heap.size 52 i0 (.agg #[.float .f64 0, .float .f64 0]) 2 16 Tryz.underlying22 hi hz0 hz1 hz2 rfl (by decide) u7 GL.length (cellsK encF GL) rfl (World.ownsRow.alloc (w := w2) HO2.out _) ⟨w2.heap.size, 0, none⟩ 1 1 (encF (pt6 (qx, qy))) rfl rfl (cells_new w2 (encF (pt6 (qx, qy))) 52) (encF_one _) (by decide) hx1 hx2 (by have := HB2.out.size; simp; omega) _ rfl ?_
             intro g9 cap9 W9 hown9 hg9 hloc9 hlt9
             have HB9 := Lib.hid (row_next HB2.out HO2.out hg9)))
      have HO9 : Hid (W9.ownsRow w.heap.size 52 2 (.slice (some ⟨g9, 0, none⟩) (GL.length + 1) cap9) ((n.take (k + 1)).map pt6).length (cellsK encF ((n.take (k + 1)).map pt6))) := by
        unfold Hid; rw [HTS.out, cellsK_append, cellsK_one, List.length_append]; exact hown9
      clear hown9 hg9 hloc9 hlt9 q0 q1 n0 n1 hx1 hx2
      go_wp2
      go_roundw
      case rel => exact ⟨k + 1, by have := HKL.out; omega, (by have := HL.out; have := HKL.out; first | rfl | rw [wrapS (by omega)]), HO9.out, HB9.out⟩
      case measure => have := HL.out; have := HKL.out; first | (simp [intOf]; omega) | (rw [wrapS (by omega)]; simp [intOf]; omega)
    · have e : k = n.length := by omega
      subst e
      rw [List.take_length] at HO
      clear hlt hk
      obtain ⟨adL, capL, rfl, hkc, _⟩ := owns_kcells HO.out
      rw [List.length_map] at *
      have HPC := Lib.hid (kcells_pts hkc)
      clear hkc
      have HMD := Lib.hid (made16_ok (n.map pt6) adL capL T at_ capt (pt6_codes HN.out (by have := HL.out; omega)).2 (pt6_codes HN.out (by have := HL.out; omega)).1 (by rw [List.length_map]; have := HL.out; omega) (by have := HTL.out; omega) wr HPC.out (HCT.out.below HB.out))
      rw [List.length_map] at HMD
      go_wp2_with (go_at_call 50; with_reducible refine HMD.out.mono ?_; rintro r w2 ⟨mb, F, adM, capM, rfl, hm, hkm, _⟩; have HM := Lib.hid hm; have HKM := Lib.hid hkm; clear hm hkm)
      have HBM : Hid (Below w.heap.size w w2) := HB.out.trans (HM.out.keep.mono HB.out.size)
      have HPC2 : Hid (PCells w2 adL (n.map pt6)) := HPC.out.below HM.out.keep
      generalize hL : goodL (emptyM (n.map pt6)) T = L at *
      have HLG : Hid (goodL (emptyM (n.map pt6)) T = L) := hL
      have HLen : Hid (L.length ≤ 60) := by unfold Hid; rw [← hL]; exact Nat.le_trans (goodL_len _ _) HTL.out
      clear hL
      go_loopw [11] (fun s11 wq => ∃ i : Nat, i ≤ L.length ∧ s11 = .int .i64 i ∧ Hid (Below w2.heap.size w2 wq)) (fun s11 _ => L.length - (intOf s11).toNat)
      case atStart => exact ⟨0, Nat.zero_le _, rfl, Below.refl _ _⟩
      case round =>
        obtain ⟨i, hi, rfl, HBQ⟩ := hrel
        by_cases hlt : i < L.length
        · have HIL := Lib.hid hlt
          obtain ⟨g, rfl, hg, q0, q1, q2⟩ := (HKM.out.below HBQ.out).tri hlt
          have htm : L.getD i (0, 0, 0) ∈ goodL (emptyM (n.map pt6)) T := by rw [HLG.out]; exact getD_mem3 hlt
          have HF := Lib.hid (fun k s => found_in HN.out htm k s)
          clear htm hg
          generalize L.getD i (0, 0, 0) = t at HF q0 q1 q2
          obtain ⟨ta, tb, tc⟩ := t
          dsimp only at q0 q1 q2
          obtain ⟨⟨a0, a1⟩, ⟨b0, b1⟩, ⟨c0, c1⟩, _, _, _⟩ := HF.out 0 0
          dsimp only at a0 a1 b0 b1 c0 c1
          obtain ⟨a, rfl⟩ : ∃ x : Nat, ta = x := ⟨ta.toNat, by omega⟩
          obtain ⟨b, rfl⟩ : ∃ x : Nat, tb = x := ⟨tb.toNat, by omega⟩
          obtain ⟨c, rfl⟩ : ∃ x : Nat, tc = x := ⟨tc.toNat, by omega⟩
          simp only [Int.toNat_natCast] at HF
          have ha : a < n.length := by omega
          have hb : b < n.length := by omega
          have hc : c < n.length := by omega
          obtain ⟨gl, off, rfl, hgl, hcc⟩ := (HPC2.out.below HBQ.out) (by rw [List.length_map]; omega)
          rw [List.length_map] at hcc
          obtain ⟨p0, p1⟩ := hcc a ha
          obtain ⟨p2, p3⟩ := hcc b hb
          obtain ⟨p4, p5⟩ := hcc c hc
          rw [pt6_get ha] at p0 p1
          rw [pt6_get hb] at p2 p3
          rw [pt6_get hc] at p4 p5
          have wa := pt6_wh (i16_get HN.out ha)
          have wb := pt6_wh (i16_get HN.out hb)
          have wc := pt6_wh (i16_get HN.out hc)
          have ia := i16_get HN.out ha
          have ib := i16_get HN.out hb
          have ic := i16_get HN.out hc
          generalize n.getD a (0, 0) = na at *
          generalize n.getD b (0, 0) = nb at *
          generalize n.getD c (0, 0) = nc at *
          generalize pt6 na = A at *
          generalize pt6 nb = B at *
          generalize pt6 nc = C at *
          obtain ⟨ax, ay⟩ := A
          obtain ⟨bx, bY⟩ := B
          obtain ⟨cx, cy⟩ := C
          dsimp only at p0 p1 p2 p3 p4 p5
          have WA := Lib.hid wa
          have WB := Lib.hid wb
          have WC := Lib.hid wc
          have IA := Lib.hid ia
          have IB := Lib.hid ib
          have IC := Lib.hid ic
          clear wa wb wc ia ib ic hcc hgl
          have R9 : Hid (Rd9 wr g i gl off a b c (.int .i64 a) (.int .i64 b) (.int .i64 c) (.float .f64 ax) (.float .f64 ay) (.float .f64 bx) (.float .f64 bY) (.float .f64 cx) (.float .f64 cy)) := ⟨q0, q1, q2, p0, p1, p2, p3, p4, p5⟩
          clear q0 q1 q2 p0 p1 p2 p3 p4 p5
          go_upto_region 14 with fail
          go_cut [12, 13, 14] from 64 to 174 (fun s12 s13 s14 wx => ∃ p q r : Nat, s12 = .pointer (some ⟨p, 0, none⟩) ∧ s13 = .pointer (some ⟨q, 0, none⟩) ∧ s14 = .pointer (some ⟨r, 0, none⟩) ∧ Hid (BoxN 52 wx p #[.float .f64 ax, .float .f64 ay] ∧ BoxN 52 wx q #[.float .f64 bx, .float .f64 bY] ∧ BoxN 52 wx r #[.float .f64 cx, .float .f64 cy]) ∧ Hid (Below w2.heap.size w2 wx))
          case first =>
            go_region_held3 (fun w' => w'.cell? ⟨g, i * 3, none⟩ = some (.int .i64 a) ∧ w'.cell? ⟨g, i * 3 + 1, none⟩ = some (.int .i64 b) ∧ w'.cell? ⟨g, i * 3 + 2, none⟩ = some (.int .i64 c) ∧
                w'.cell? ⟨gl, off + a * 2, none⟩ = some (.float .f64 ax) ∧ w'.cell? ⟨gl, off + a * 2 + 1, none⟩ = some (.float .f64 ay) ∧ w'.cell? ⟨gl, off + b * 2, none⟩ = some (.float .f64 bx) ∧ w'.cell? ⟨gl, off + b * 2 + 1, none⟩ = some (.float .f64 bY) ∧ w'.cell? ⟨gl, off + c * 2, none⟩ = some (.float .f64 cx) ∧ w'.cell? ⟨gl, off + c * 2 + 1, none⟩ = some (.float .f64 cy))
              (first | (change Rd9 _ g i gl off a b c (.int .i64 a) (.int .i64 b) (.int .i64 c) (.float .f64 ax) (.float .f64 ay) (.float .f64 bx) (.float .f64 bY) (.float .f64 cx) (.float .f64 cy); repeat (first | with_reducible exact R9.out | with_reducible apply Rd9.drew | with_reducible apply Rd9.alloc)))
              (first | fail)
            all_goals
              go_wp2_with fail
              go_meet
              refine ⟨_, _, _, rfl, rfl, rfl, ⟨?_, ?_, ?_⟩, below3 HBQ.out HBQ.out.size _ _ _⟩
              · first | exact (box3 wr _ _ _ _).1 | exact (box3 wr _ _ _ _).2.1 | exact (box3 wr _ _ _ _).2.2
              · first | exact (box3 wr _ _ _ _).1 | exact (box3 wr _ _ _ _).2.1 | exact (box3 wr _ _ _ _).2.2
              · first | exact (box3 wr _ _ _ _).1 | exact (box3 wr _ _ _ _).2.1 | exact (box3 wr _ _ _ _).2.2
          case rest =>
            obtain ⟨p, q, r, rfl, rfl, rfl, HBX, HBC⟩ := hcut
            have T0 : Hid (Cor3 w2 wc.drew p q r (.float .f64 ax) (.float .f64 ay) (.float .f64 bx) (.float .f64 bY) (.float .f64 cx) (.float .f64 cy)) := ⟨HBX.out, HBC.out.drew⟩
            have n0 := T0.out.cells
            have fax := WA.out.1.1
            have fay := WA.out.2.1.1
            have fbx := WB.out.1.1
            have fby := WB.out.2.1.1
            have fcx := WC.out.1.1
            have fcy := WC.out.2.1.1
            have d1 := (half_ok WA.out.1 WB.out.1 IA.out.1 IB.out.1).1
            have d2 := (half_ok WA.out.2.1 WB.out.2.1 IA.out.2 IB.out.2).1
            have d3 := (half_ok WB.out.1 WC.out.1 IB.out.1 IC.out.1).1
            have d4 := (half_ok WB.out.2.1 WC.out.2.1 IB.out.2 IC.out.2).1
            have d5 := (half_ok WA.out.1 WC.out.1 IA.out.1 IC.out.1).1
            have d6 := (half_ok WA.out.2.1 WC.out.2.1 IA.out.2 IC.out.2).1
            obtain ⟨d7, d8, _⟩ := third_ok WA.out.1 WB.out.1 WC.out.1 IA.out.1 IB.out.1 IC.out.1
            obtain ⟨d9, d10, _⟩ := third_ok WA.out.2.1 WB.out.2.1 WC.out.2.1 IA.out.2 IB.out.2 IC.out.2
            dsimp only at fax fay fbx fby fcx fcy d1 d2 d3 d4 d5 d6 d7 d8 d9 d10
            go_upto_region 15 with fail
            go_cut [153, 154] from 64 to 174 (fun s153 s154 wx => s153 = fiveV (ax, ay) (bx, bY) (cx, cy) ∧ s154 = .int .i64 0 ∧ Hid (Below w2.heap.size w2 wx))
            case first =>
              go_region_held3 (fun w' => w'.cell? ⟨p, 0, none⟩ = some (.float .f64 ax) ∧ w'.cell? ⟨p, 1, none⟩ = some (.float .f64 ay) ∧ w'.cell? ⟨q, 0, none⟩ = some (.float .f64 bx) ∧ w'.cell? ⟨q, 1, none⟩ = some (.float .f64 bY) ∧ w'.cell? ⟨r, 0, none⟩ = some (.float .f64 cx) ∧ w'.cell? ⟨r, 1, none⟩ = some (.float .f64 cy))
                (first | exact n0 | exact n1 | exact n2 | exact n3 | exact n4)
                (first
                  | (go_at_call 57; with_reducible refine (Cor3.at _ _ T0).mono ?_; rintro e1 w3 ⟨rfl, n1, T1⟩)
                  | (go_at_call 57; with_reducible refine (Cor3.at _ _ T1).mono ?_; rintro e2 w4 ⟨rfl, n2, T2⟩)
                  | (go_at_call 57; with_reducible refine (Cor3.at _ _ T2).mono ?_; rintro e3 w5 ⟨rfl, n3, T3⟩)
                  | (go_at_call 57; with_reducible refine (Cor3.at _ _ T3).mono ?_; rintro e4 w6 ⟨rfl, n4, T4⟩))
              go_wp2_with fail
              go_meet
              exact ⟨rfl, rfl, T4.out.2⟩
            case rest =>
              obtain ⟨rfl, rfl, HBD⟩ := hcut
              clear fax fay fbx fby fcx fcy d1 d2 d3 d4 d5 d6 d7 d8 d9 d10 n0 T0
              have HFD := Lib.hid (fun W (hb : Below w2.heap.size w2 W) k z hz => c_find5 HM.out (by rw [foldM_P]; exact (pt6_codes HN.out (by have := HL.out; omega)).2) (madeM_sound _ _) (by rw [foldM_P]; show (n.map pt6).length ≤ _; rw [List.length_map]; have := HL.out; omega) hb (fiveP (ax, ay) (bx, bY) (cx, cy) k) (HF.out k 0).2.2.2.1 (HF.out k 0).2.2.2.2.1 (fun s => (HF.out k s).2.2.2.2.2) z hz)
              have HIX := Lib.hid (fun j hj w => idx5 (ax, ay) (bx, bY) (cx, cy) (j := j) hj w)
              clear HF
              generalize hV5 : fiveV (ax, ay) (bx, bY) (cx, cy) = V5 at *
              clear hV5
              go_wp2
              go_loopw [154] (fun s154 wx => ∃ j : Nat, j ≤ 5 ∧ s154 = .int .i64 j ∧ Hid (Below w2.heap.size w2 wx)) (fun s154 _ => 5 - (intOf s154).toNat)
              case atStart => exact ⟨0, by omega, rfl, HBD.out⟩
              case round =>
                obtain ⟨j, hj, rfl, HBJ⟩ := hrel
                by_cases hj5 : j < 5
                · have hix := HIX.out j hj5
                  have HFJ := Lib.hid (fun W hb z hz => HFD.out W hb j z hz)
                  generalize fiveP (ax, ay) (bx, bY) (cx, cy) j = pj at hix HFJ
                  obtain ⟨px, py⟩ := pj
                  dsimp only at hix HFJ
                  go_wp2_with (go_at_call 51; with_reducible refine (HFJ.out _ (HBJ.out.alloc HBJ.out.size _) _ (u64_in _)).mono ?_; rintro e5 w7 ⟨k5, a5, b5, c5, hk5, rfl, HB7⟩; have hk6 : (k5 == 4) = false := by simpa using hk5)
                  refine ⟨⟨j + 1, by omega, rfl, HB7.out.alloc HB7.out.size _⟩, ?_⟩
                  simp [intOf]; omega
                · have e : j = 5 := by omega
                  subst e
                  go_wp2
                  refine ⟨⟨i + 1, by have := HIL.out; omega, ?_, HBJ.out⟩, ?_⟩
                  · have := HLen.out; have := HIL.out; first | rfl | rw [wrapS (by omega)]
                  · have := HLen.out; have := HIL.out; first | (simp [intOf]; omega) | (rw [wrapS (by omega)]; simp [intOf]; omega)
        · have e : i = L.length := by omega
          subst e
          go_wp2
          go_ret
          exact ⟨rfl, HBM.out.trans (HBQ.out.mono HBM.out.size)⟩

end Go.Proofs.YtdoaniccefdkaaaGreatDoor

/- trivetlaw16.WalkFound: whatever its arguments. -/
namespace Go.Proofs.YtdoaniccefdkaaaGreatDoor
open Go.RowKit Tvf Go.Maps Go.WideMaps

set_option maxRecDepth 100000 in
set_option maxHeartbeats 1000000 in
theorem found_big (n : List (Int × Int)) (ad : Option Addr) (cap : Nat) (T : List Tri3) (at_ : Option Addr) (capt : Nat) (seed : Nat) (hb : 40 < n.length ∨ 60 < T.length) (w : World) :
    Calls Tryz.prog 12 #[.slice ad n.length cap, .slice at_ T.length capt, .int .u64 seed] w fun r w' => r = .returned (.bool true) ∧ Below w.heap.size w w' := by
  have HAW := Lib.hid awake16_walk
  by_cases h1 : 40 < n.length
  · have g1 : (40 : Int) < (n.length : Int) := by omega
    clear hb h1
    go_enter Tryz.func12, Tryz.ntmps12
    go_wp2_with (go_at_call 49; with_reducible refine (HAW.out _).mono ?_; rintro r w1 ⟨rfl, hb1⟩)
    go_ret
    exact ⟨rfl, hb1⟩
  · have g1 : ¬(40 : Int) < (n.length : Int) := by omega
    have g2 : (60 : Int) < (T.length : Int) := by omega
    clear hb h1
    go_enter Tryz.func12, Tryz.ntmps12
    go_wp2_with (go_at_call 49; with_reducible refine (HAW.out _).mono ?_; rintro r w1 ⟨rfl, hb1⟩)
    go_ret
    exact ⟨rfl, hb1⟩

theorem found_walk (n : List (Int × Int)) (ad : Option Addr) (cap : Nat) (T : List Tri3) (at_ : Option Addr) (capt : Nat) (seed : Nat) (hs : seed < 18446744073709551616) (hn : ∀ q, q ∈ n → i16ok q) (w : World) (hc : ICells w ad n) (hct : TCells w at_ T) :
    Calls Tryz.prog 12 #[.slice ad n.length cap, .slice at_ T.length capt, .int .u64 seed] w fun r w' => r = .returned (.bool true) ∧ Below w.heap.size w w' := by
  by_cases hb : 40 < n.length ∨ 60 < T.length
  · exact found_big n ad cap T at_ capt seed hb w
  · exact found_main n ad cap T at_ capt seed hs (by omega) (by omega) hn w hc hct

end Go.Proofs.YtdoaniccefdkaaaGreatDoor
