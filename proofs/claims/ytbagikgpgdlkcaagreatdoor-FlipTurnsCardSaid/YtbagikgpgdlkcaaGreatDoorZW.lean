/- Part of the proof. No conditions. -/
import Derived.Test.YtbagikgpgdlkcaaGreatDoorZV
set_option linter.all false
set_option maxHeartbeats 8000000
set_option maxRecDepth 100000
namespace Go.Proofs.YtbagikgpgdlkcaaGreatDoor
open Go.RowKit Tvf
theorem fo_K : foL9.length = 9 := rfl
theorem all_turns {w0 w : World} {mb n : Nat} {M N : MeshM} {F : Nat → Prop} (h : MB w0 w mb n M F) (hn : n ≤ 1000000) (hE : edgeL M.ap M.P.length = foL) (h1 : ∀ e,e ∈ [((0,3) : Int × Int),(1,2),(2,3)] → (shB M e.1 e.2 && mayB M e.1 e.2) = false) (h2 : shB M 0 2 = true) (h3 : mayB M 0 2 = true) (h4 : four M 0 2 = [(0,1),(1,2),(2,3),(3,0)]) (h5 : turnR M 0 2 = N)
  (h6 : ∀ e,e ∈ [((0,1) : Int × Int),(0,1),(1,2),(2,3),(3,0)] → (shB N e.1 e.2 && mayB N e.1 e.2) = false) (h7 : ∀ e,e ∈ foL9 → (shB N e.1 e.2 && mayB N e.1 e.2) = false) (hs : Sound M) (h64 : ∀ p,p ∈ M.P → pt64 p) (hl : M.P.length ≤ 1048576)
  (hW : ∀ w,Calls Tryz.prog 50 #[V (ptAt M 0),V (ptAt M 2),V (ptAt M (apD M 0 2)),V (ptAt M (apD M 2 0))] w fun r w' => r = .returned (.bool true) ∧ Below w.heap.size w w') :
  Calls Tryz.prog 27 #[.pointer (some ⟨mb,0,none⟩)] w fun r w' => r = .returned (.tuple #[.int .i64 1,.int .i64 0]) ∧ ∃ G,MB w0 w' mb (n + 12) N G ∧ Stay F w w' ∧ ∀ i,G i → F i ∨ w.heap.size ≤ i := by
 have hs' : Sound N := by rw [← h5]; exact turnR_sound hs _ _
 have hP' : N.P = M.P := by rw [← h5]; exact turnR_P _ _ _
 have hg0 := fo_good M N h1 h2 h3 h4 h5 h6 hs h64 hl hs' (by rw [hP']; exact h64) (by rw [hP']; exact hl) hW
 obtain ⟨_,_,r9⟩ := fo_run M N h1 h2 h3 h4 h5 h6
 obtain ⟨hg1,r18⟩ := q_turn (n := 1) h7 hs' (by rw [hP']; exact h64) (by rw [hP']; exact hl) ⟨by decide,by decide,by decide,sm_of (by decide)⟩ (by decide)
 rw [fo_K] at hg1 r18
 have e1 : stRun D0 (fun _ => 9) ⟨M,edgeL M.ap M.P.length,0⟩ 0 = ⟨M,foL,0⟩ := by rw [hE]; rfl
 have e2 : stRun D0 (fun _ => 9) ⟨M,edgeL M.ap M.P.length,0⟩ 1 = ⟨N,foL9,1⟩ := by
  show stNext D0 9 (stRun D0 (fun _ => 9) ⟨M,edgeL M.ap M.P.length,0⟩ 0) = _
  rw [e1]
  show (⟨(sRun D0 ⟨M,foL,foL,0⟩ 9).M,(sRun D0 ⟨M,foL,foL,0⟩ 9).S,0 + (sRun D0 ⟨M,foL,foL,0⟩ 9).n⟩ : Stg) = _
  rw [r9]
  rfl
 have e3 : (stRun D0 (fun _ => 9) ⟨M,edgeL M.ap M.P.length,0⟩ 2).M = N := by
  show (stNext D0 9 (stRun D0 (fun _ => 9) ⟨M,edgeL M.ap M.P.length,0⟩ 1)).M = _
  rw [e2]
  show (sRun D0 (Stg.s0 ⟨N,foL9,1⟩) 9).M = N
  rw [r18]
 refine (All_walk h h64 hs hl hn D0 (fun _ => 9) 1 ?_ ?_ ?_).mono ?_
 ·intro r hr
  rcases (show r = 0 ∨ r = 1 by omega) with rfl | rfl
  ·rw [e1]; exact hg0
  ·rw [e2]; exact hg1
 ·intro r hr
  obtain rfl : r = 0 := by omega
  rw [e1]
  show (sRun D0 ⟨M,foL,foL,0⟩ 9).n ≠ 0
  rw [r9]
  show 1 ≠ 0
  decide
 ·rw [e2,r18]
 ·rintro r w' ⟨rfl,G,h8,h9,h10⟩
  rw [e2] at h8 ⊢
  rw [e3] at h8
  exact ⟨rfl,G,h8,h9,h10⟩
theorem all_quiet {w0 w : World} {mb n : Nat} {M : MeshM} {F : Nat → Prop} (h : MB w0 w mb n M F) (hn : n ≤ 1000000) {L : List (Int × Int)} (hE : edgeL M.ap M.P.length = L) (hq : ∀ e,e ∈ L → (shB M e.1 e.2 && mayB M e.1 e.2) = false) (hok : OkS L L 0) (hs : Sound M) (h64 : ∀ p,p ∈ M.P → pt64 p) (hl : M.P.length ≤ 1048576) :
  Calls Tryz.prog 27 #[.pointer (some ⟨mb,0,none⟩)] w fun r w' => r = .returned (.tuple #[.int .i64 0,.int .i64 0]) ∧ ∃ G,MB w0 w' mb n M G ∧ Stay F w w' ∧ ∀ i,G i → F i ∨ w.heap.size ≤ i := by
 obtain ⟨hg,hr⟩ := q_turn (n := 0) hq hs h64 hl hok (by decide)
 have e1 : stRun D0 (fun _ => L.length) ⟨M,edgeL M.ap M.P.length,0⟩ 0 = ⟨M,L,0⟩ := by rw [hE]; rfl
 have e2 : (stRun D0 (fun _ => L.length) ⟨M,edgeL M.ap M.P.length,0⟩ 1).M = M := by
  show (stNext D0 L.length (stRun D0 (fun _ => L.length) ⟨M,edgeL M.ap M.P.length,0⟩ 0)).M = _
  rw [e1]
  show (sRun D0 (Stg.s0 ⟨M,L,0⟩) L.length).M = M
  rw [hr]
 refine (All_walk h h64 hs hl hn D0 (fun _ => L.length) 0 ?_ ?_ ?_).mono ?_
 ·intro r hr'
  obtain rfl : r = 0 := by omega
  rw [e1]; exact hg
 ·intro r hr'; omega
 ·rw [e1,hr]
 ·rintro r w' ⟨rfl,G,h8,h9,h10⟩
  rw [e1] at h8 ⊢
  rw [e2] at h8
  exact ⟨rfl,G,h8,h9,h10⟩
open Go.Maps Go.WideMaps
theorem fm_pc (w : World) : PCells (w.alloc (.cells #[.float .f64 0,.float .f64 0,.float .f64 4616189618054758400,.float .f64 0,.float .f64 4616189618054758400,.float .f64 4607182418800017408,.float .f64 0,.float .f64 4607182418800017408,.float .f64 4611686018427387904,.float .f64 4621256167635550208] 68)) (some ⟨w.heap.size,0,none⟩) fmP := by
 intro _
 refine ⟨_,0,rfl,by simp,fun i hi => ?_⟩
 have : i = 0 ∨ i = 1 ∨ i = 2 ∨ i = 3 ∨ i = 4 := by simp [fmP] at hi; omega
 rw [World.cell?_alloc_at _ _ _ _ rfl,World.cell?_alloc_at _ _ _ _ rfl]
 rcases this with rfl | rfl | rfl | rfl | rfl <;> exact ⟨rfl,rfl⟩
theorem of_fm (w : World) :
  Calls Tryz.prog 29 #[.slice (some ⟨w.heap.size,0,none⟩) 5 5,.slice (some ⟨w.heap.size + 1,0,none⟩) 3 3] ((w.alloc (.cells #[.float .f64 0,.float .f64 0,.float .f64 4616189618054758400,.float .f64 0,.float .f64 4616189618054758400,.float .f64 4607182418800017408,.float .f64 0,.float .f64 4607182418800017408,.float .f64 4611686018427387904,.float .f64 4621256167635550208] 68)).alloc (.cells #[.int .i64 0,.int .i64 1,.int .i64 3,.int .i64 1,.int .i64 2,.int .i64 3,.int .i64 3,.int .i64 2,.int .i64 4] 61)) fun r w' => ∃ mb F,r = .returned (.tuple #[.pointer (some ⟨mb,0,none⟩),.int .i64 0]) ∧ Hid (MB w w' mb 9 fmA F) := by
 have hk := kcells_new (w.alloc (.cells #[.float .f64 0,.float .f64 0,.float .f64 4616189618054758400,.float .f64 0,.float .f64 4616189618054758400,.float .f64 4607182418800017408,.float .f64 0,.float .f64 4607182418800017408,.float .f64 4611686018427387904,.float .f64 4621256167635550208] 68)) [(0,1,3),(1,2,3),(3,2,4)] 61
 rw [show (w.alloc (.cells #[.float .f64 0,.float .f64 0,.float .f64 4616189618054758400,.float .f64 0,.float .f64 4616189618054758400,.float .f64 4607182418800017408,.float .f64 0,.float .f64 4607182418800017408,.float .f64 4611686018427387904,.float .f64 4621256167635550208] 68)).heap.size = w.heap.size + 1 from by simp] at hk
 refine (of_ok fmP (some ⟨w.heap.size,0,none⟩) 5 [(0,1,3),(1,2,3),(3,2,4)] (some ⟨w.heap.size + 1,0,none⟩) 3 fm_64 fm_all (by rw [fmP_len]; omega) (by decide) fm_allOk ((w.alloc (.cells #[.float .f64 0,.float .f64 0,.float .f64 4616189618054758400,.float .f64 0,.float .f64 4616189618054758400,.float .f64 4607182418800017408,.float .f64 0,.float .f64 4607182418800017408,.float .f64 4611686018427387904,.float .f64 4621256167635550208] 68)).alloc (.cells #[.int .i64 0,.int .i64 1,.int .i64 3,.int .i64 1,.int .i64 2,.int .i64 3,.int .i64 3,.int .i64 2,.int .i64 4] 61)) ((fm_pc w).alloc _) hk).mono ?_
 rintro r w' ⟨mb,F,rfl,hm⟩
 exact ⟨mb,F,rfl,(hm.same fm_fold).up (((Below.refl _ w).alloc (Nat.le_refl _) _).alloc (by simp) _)⟩
theorem fo_pc (w : World) : PCells (w.alloc (.cells #[.float .f64 0,.float .f64 0,.float .f64 4621256167635550208,.float .f64 0,.float .f64 4621256167635550208,.float .f64 4621256167635550208,.float .f64 4607182418800017408,.float .f64 4611686018427387904] 68)) (some ⟨w.heap.size,0,none⟩) foP := by
 intro _
 refine ⟨_,0,rfl,by simp,fun i hi => ?_⟩
 have : i = 0 ∨ i = 1 ∨ i = 2 ∨ i = 3 := by simp [foP] at hi; omega
 rw [World.cell?_alloc_at _ _ _ _ rfl,World.cell?_alloc_at _ _ _ _ rfl]
 rcases this with rfl | rfl | rfl | rfl <;> exact ⟨rfl,rfl⟩
theorem of_fo (w : World) :
  Calls Tryz.prog 29 #[.slice (some ⟨w.heap.size,0,none⟩) 4 4,.slice (some ⟨w.heap.size + 1,0,none⟩) 2 2] ((w.alloc (.cells #[.float .f64 0,.float .f64 0,.float .f64 4621256167635550208,.float .f64 0,.float .f64 4621256167635550208,.float .f64 4621256167635550208,.float .f64 4607182418800017408,.float .f64 4611686018427387904] 68)).alloc (.cells #[.int .i64 0,.int .i64 1,.int .i64 2,.int .i64 0,.int .i64 2,.int .i64 3] 61)) fun r w' => ∃ mb F,r = .returned (.tuple #[.pointer (some ⟨mb,0,none⟩),.int .i64 0]) ∧ Hid (MB w w' mb 6 foA F) := by
 have hk := kcells_new (w.alloc (.cells #[.float .f64 0,.float .f64 0,.float .f64 4621256167635550208,.float .f64 0,.float .f64 4621256167635550208,.float .f64 4621256167635550208,.float .f64 4607182418800017408,.float .f64 4611686018427387904] 68)) [(0,1,2),(0,2,3)] 61
 rw [show (w.alloc (.cells #[.float .f64 0,.float .f64 0,.float .f64 4621256167635550208,.float .f64 0,.float .f64 4621256167635550208,.float .f64 4621256167635550208,.float .f64 4607182418800017408,.float .f64 4611686018427387904] 68)).heap.size = w.heap.size + 1 from by simp] at hk
 refine (of_ok foP (some ⟨w.heap.size,0,none⟩) 4 [(0,1,2),(0,2,3)] (some ⟨w.heap.size + 1,0,none⟩) 2 fo_64 fo_all (by rw [foP_len]; omega) (by decide) fo_allOk ((w.alloc (.cells #[.float .f64 0,.float .f64 0,.float .f64 4621256167635550208,.float .f64 0,.float .f64 4621256167635550208,.float .f64 4621256167635550208,.float .f64 4607182418800017408,.float .f64 4611686018427387904] 68)).alloc (.cells #[.int .i64 0,.int .i64 1,.int .i64 2,.int .i64 0,.int .i64 2,.int .i64 3] 61)) ((fo_pc w).alloc _) hk).mono ?_
 rintro r w' ⟨mb,F,rfl,hm⟩
 exact ⟨mb,F,rfl,(hm.same fo_fold).up (((Below.refl _ w).alloc (Nat.le_refl _) _).alloc (by simp) _)⟩
theorem fm_small : fmA.P.length ≤ 1048576 := by rw [fmA_P,fmP_len]; omega
theorem fmB_small : fmB.P.length ≤ 1048576 := by rw [fmB_P,fmP_len]; omega
theorem fo_small : foA.P.length ≤ 1048576 := by rw [foA_P,foP_len]; omega
theorem foB_small : foB.P.length ≤ 1048576 := by rw [foB_P,foP_len]; omega
theorem foX_small : foX.P.length ≤ 1048576 := by rw [foX_P,foP_len]; omega
theorem fxM_sound {M : MeshM} (h : Sound M) (f : Int → Int → Option Int) : Sound (fxM M f) := ⟨h.rot,h.win,h.sgn,h.cnt,h.sp⟩
theorem foX_sound : Sound foX := by unfold foX; exact fxM_sound foA_sound _
theorem fmA_64 : ∀ p,p ∈ fmA.P → pt64 p := by rw [fmA_P]; exact fm_64
theorem foA_64 : ∀ p,p ∈ foA.P → pt64 p := by rw [foA_P]; exact fo_64
theorem foB_64 : ∀ p,p ∈ foB.P → pt64 p := by rw [foB_P]; exact fo_64
theorem foX_64 : ∀ p,p ∈ foX.P → pt64 p := by rw [foX_P]; exact fo_64
theorem fm_within (w : World) : Calls Tryz.prog 50 #[V (ptAt fmA 1),V (ptAt fmA 3),V (ptAt fmA (apD fmA 1 3)),V (ptAt fmA (apD fmA 3 1))] w fun r w' => r = .returned (.bool false) ∧ Below w.heap.size w w' := by
 have h := fm_p
 simp only [Prod.mk.injEq] at h
 obtain ⟨h1,h2,h3,h4⟩ := h
 rw [h1,h2,h3,h4]
 exact wt1 w
theorem fo_within (w : World) : Calls Tryz.prog 50 #[V (ptAt foA 0),V (ptAt foA 2),V (ptAt foA (apD foA 0 2)),V (ptAt foA (apD foA 2 0))] w fun r w' => r = .returned (.bool true) ∧ Below w.heap.size w w' := by
 have h := fo_p
 simp only [Prod.mk.injEq] at h
 obtain ⟨h1,h2,h3,h4⟩ := h
 rw [h1,h2,h3,h4]
 exact wt2 w
theorem fo_within2 (w : World) : Calls Tryz.prog 50 #[V (ptAt foB 1),V (ptAt foB 3),V (ptAt foB (apD foB 1 3)),V (ptAt foB (apD foB 3 1))] w fun r w' => r = .returned (.bool false) ∧ Below w.heap.size w w' := by
 have h := fo_p2
 simp only [Prod.mk.injEq] at h
 obtain ⟨h1,h2,h3,h4⟩ := h
 rw [h1,h2,h3,h4]
 exact wt3 w
section
variable {w0 w : World} {mb n : Nat} {M : MeshM} {F : Nat → Prop}
theorem c_del_yes (h : Hid (MB w0 w mb n M F)) (h64 : ∀ p,p ∈ M.P → pt64 p) (hs : Sound M) (hl : M.P.length ≤ 1048576) {a b : Int} (ha : i64ok a) (hb : i64ok b) (hq1 : shB M a b = true) (hq2 : mayB M a b = true)
  (hW : ∀ w,Calls Tryz.prog 50 #[V (ptAt M a),V (ptAt M b),V (ptAt M (apD M a b)),V (ptAt M (apD M b a))] w fun r w' => r = .returned (.bool false) ∧ Below w.heap.size w w') :
  Calls Tryz.prog 17 #[.pointer (some ⟨mb,0,none⟩),.int .i64 a,.int .i64 b] w fun r w' => r = .returned (.bool true) ∧ Below w.heap.size w w' ∧ Hid (MB w0 w' mb n M F) :=
 (del_yes h.out.at_ h64 hs hl ha hb hq1 hq2 false hW).mono fun _ _ h1 => ⟨h1.1,h1.2,h.out.below h1.2⟩
theorem c_may (h : Hid (MB w0 w mb n M F)) (h64 : ∀ p,p ∈ M.P → pt64 p) (hs : Sound M) (hl : M.P.length ≤ 1048576) {a b : Int} (ha : i64ok a) (hb : i64ok b) {q : Bool} (hq : (shB M a b && mayB M a b) = q) :
  Calls Tryz.prog 19 #[.pointer (some ⟨mb,0,none⟩),.int .i64 a,.int .i64 b] w fun r w' => r = .returned (.bool q) ∧ Below w.heap.size w w' ∧ Hid (MB w0 w' mb n M F) :=
 (fmay_walk h.out.at_ h64 hs hl ha hb).mono fun _ _ h1 => ⟨by rw [h1.1,hq],h1.2,h.out.below h1.2⟩
theorem c_turn_none (h : Hid (MB w0 w mb n M F)) {a b : Int} (ha : i64ok a) (hb : i64ok b) (hq : shB M a b = false) :
  Calls Tryz.prog 13 #[.pointer (some ⟨mb,0,none⟩),.int .i64 a,.int .i64 b] w fun r w' => r = .returned (.int .i64 5) ∧ Below w.heap.size w w' ∧ Hid (MB w0 w' mb n M F) :=
 (turn_none h.out.at_ ha hb hq).mono fun _ _ h1 => ⟨h1.1,h1.2,h.out.below h1.2⟩
theorem c_turn_ok (h : Hid (MB w0 w mb n M F)) (h64 : ∀ p,p ∈ M.P → pt64 p) (hs : Sound M) (hl : M.P.length ≤ 1048576) (hn : n ≤ 100000000) {a b : Int} (ha : i64ok a) (hb : i64ok b) (hq1 : shB M a b = true) (hq2 : mayB M a b = true) {N : MeshM} (hN : turnR M a b = N) :
  Calls Tryz.prog 13 #[.pointer (some ⟨mb,0,none⟩),.int .i64 a,.int .i64 b] w fun r w' => r = .returned (.int .i64 0) ∧ ∃ G,Hid (MB w0 w' mb (n + 12) N G) :=
 (turn_ok h.out h64 hs hl hn ha hb hq1 hq2).mono fun _ _ ⟨h1,G,h2,_,_⟩ => ⟨h1,G,h2.same hN⟩
end
theorem c_allX {w0 w : World} {mb n : Nat} {F : Nat → Prop} (h : Hid (MB w0 w mb n foX F)) (hn : n ≤ 1000) :
  Calls Tryz.prog 27 #[.pointer (some ⟨mb,0,none⟩)] w fun r w' => r = .returned (.tuple #[.int .i64 0,.int .i64 0]) ∧ ∃ G,Hid (MB w0 w' mb n foX G) := by
 refine (all_quiet h.out (by omega) fx_edges (quiet_of fx_quiet) ⟨by decide,by decide,by decide,sm_of (by decide)⟩ foX_sound foX_64 foX_small).mono ?_
 rintro r w' ⟨rfl,G,h1,_,_⟩
 exact ⟨rfl,G,h1⟩
theorem two_of {w0 w1 w : World} {mb n : Nat} {M : MeshM} {F : Nat → Prop} {mb2 n2 : Nat} {M2 : MeshM} {F2 : Nat → Prop} (h2 : Hid (MB w0 w1 mb2 n2 M2 F2)) (h : Hid (MB w1 w mb n M F)) : Hid (Two w0 w mb n M F mb2 n2 M2 F2) :=
 ⟨h.out.up h2.out.keep,h2.out.below h.out.keep,fun i hi e => by have := h2.out.at_.flt i hi; have := h.out.new i e; omega⟩
section
variable {w0 w : World} {mb n : Nat} {M : MeshM} {F : Nat → Prop} {mb2 n2 : Nat} {M2 : MeshM} {F2 : Nat → Prop}
theorem t_del (h : Hid (Two w0 w mb n M F mb2 n2 M2 F2)) (h64 : ∀ p,p ∈ M.P → pt64 p) (hs : Sound M) (hl : M.P.length ≤ 1048576) {a b : Int} (ha : i64ok a) (hb : i64ok b) (hq1 : shB M a b = true) (hq2 : mayB M a b = true) {v u : Bool}
  (hW : ∀ w,Calls Tryz.prog 50 #[V (ptAt M a),V (ptAt M b),V (ptAt M (apD M a b)),V (ptAt M (apD M b a))] w fun r w' => r = .returned (.bool v) ∧ Below w.heap.size w w') (hu : (!v) = u) :
  Calls Tryz.prog 17 #[.pointer (some ⟨mb,0,none⟩),.int .i64 a,.int .i64 b] w fun r w' => r = .returned (.bool u) ∧ Hid (Two w0 w' mb n M F mb2 n2 M2 F2) :=
 (del_yes h.out.a.at_ h64 hs hl ha hb hq1 hq2 v hW).mono fun _ _ h1 => ⟨by rw [h1.1,hu],h.out.below h1.2⟩
theorem Two.turn2 {n' : Nat} {M' : MeshM} {G : Nat → Prop} {w' : World} (h : Two w0 w mb n M F mb2 n2 M2 F2) (hm : MB w0 w' mb n' M' G) (hs : Stay F w w') (hG : ∀ i,G i → F i ∨ w.heap.size ≤ i) : Two w0 w' mb n' M' G mb2 n2 M2 F2 :=
 ⟨hm,h.b.apart hs hm.keep h.off,fun i hi e => (hG i e).elim (h.off i hi) (fun e => by have := h.b.at_.flt i hi; omega)⟩
theorem t_tris_a {T : List Tri3} (h : Hid (Two w0 w mb n M F mb2 n2 M2 F2)) (hs : Sound M) (hl : M.P.length ≤ 1048576) (hT : trisL M.ap M.P.length = T) :
  Calls Tryz.prog 11 #[.pointer (some ⟨mb,0,none⟩)] w fun r w' => ∃ ad cap,r = .returned (.slice ad T.length cap) ∧ Hid (KCells encT w' ad T) ∧ Hid (Two w0 w' mb n M F mb2 n2 M2 F2) := by
 have := tris_mb h.out.a hs hl
 rw [hT] at this
 refine this.mono ?_
 rintro r w' ⟨ad,cap,rfl,hk,_,_,hb⟩
 exact ⟨ad,cap,rfl,hk,h.out.below hb⟩
theorem t_tris_b {T : List Tri3} (h : Hid (Two w0 w mb n M F mb2 n2 M2 F2)) (hs : Sound M2) (hl : M2.P.length ≤ 1048576) (hT : trisL M2.ap M2.P.length = T) :
  Calls Tryz.prog 11 #[.pointer (some ⟨mb2,0,none⟩)] w fun r w' => ∃ ad cap,r = .returned (.slice ad T.length cap) ∧ Hid (KCells encT w' ad T) ∧ Hid (Two w0 w' mb n M F mb2 n2 M2 F2) := by
 have := tris_mb h.out.b hs hl
 rw [hT] at this
 refine this.mono ?_
 rintro r w' ⟨ad,cap,rfl,hk,_,_,hb⟩
 exact ⟨ad,cap,rfl,hk,h.out.below hb⟩
theorem t_same {T : List Tri3} {ad : Option Addr} {cap c2 : Nat} (hk : Hid (KCells encT w ad T)) (h : Hid (Two w0 w mb n M F mb2 n2 M2 F2)) (hl : T.length ≤ 1000) :
  Calls Tryz.prog 14 #[.slice ad T.length cap,.slice (some ⟨w.heap.size,0,none⟩) T.length c2] (w.alloc (.cells (cellsK encT T).toArray 61)) fun r w' => r = .returned (.bool true) ∧ Hid (Two w0 w' mb n M F mb2 n2 M2 F2) :=
 (sameTris_walk T ad (some ⟨w.heap.size,0,none⟩) cap c2 _ (hk.out.below ((Below.refl _ w).alloc (Nat.le_refl _) _)) (kcells_new w T _) (by omega)).mono fun _ _ h1 => ⟨h1.1,(h.out.below ((Below.refl _ w).alloc (Nat.le_refl _) _)).below h1.2⟩
end
theorem t_allO {w0 w : World} {mb n : Nat} {F : Nat → Prop} {mb2 n2 : Nat} {M2 : MeshM} {F2 : Nat → Prop} (h : Hid (Two w0 w mb n foA F mb2 n2 M2 F2)) (hn : n ≤ 1000) :
  Calls Tryz.prog 27 #[.pointer (some ⟨mb,0,none⟩)] w fun r w' => r = .returned (.tuple #[.int .i64 1,.int .i64 0]) ∧ ∃ G,Hid (Two w0 w' mb (n + 12) foB G mb2 n2 M2 F2) := by
 refine (all_turns h.out.a (by omega) fo_edges (quiet_of fo_q1) fo_s02 fo_m02 fo_four fo_turn (quiet_of fo_q2) (quiet_of fo_q3) foA_sound foA_64 fo_small fo_within).mono ?_
 rintro r w' ⟨rfl,G,h1,h2,h3⟩
 exact ⟨rfl,G,h.out.turn2 h1 h2 h3⟩
end Go.Proofs.YtbagikgpgdlkcaaGreatDoor
namespace Go.Proofs.YtbagikgpgdlkcaaGreatDoor
open Go.RowKit Tvf Go.Maps Go.WideMaps
theorem fworks_walk (w : World) : Calls Tryz.prog 8 #[] w fun r w' => r = .returned (.bool true) ∧ Below w.heap.size w w' := by
 go_enter Tryz.func8,Tryz.ntmps8
 go_wp2_with (first
  |(go_at_call 29; with_reducible refine (of_fm w).mono ?_; rintro r w1 ⟨mA,FA,rfl,m1⟩)
  |(go_at_call 17; with_reducible refine (c_del_yes m1 fmA_64 fmA_sound fm_small small1 small3 fm_s13 fm_m13 fm_within).mono ?_; rintro r w2 ⟨rfl,_,m2⟩; clear m1)
  |(go_at_call 19; with_reducible refine (c_may m2 fmA_64 fmA_sound fm_small small3 small1 fm_31).mono ?_; rintro r w3 ⟨rfl,_,m3⟩; clear m2)
  |(go_at_call 13; with_reducible refine (c_turn_none m3 small0 small1 fm_s01).mono ?_; rintro r w4 ⟨rfl,_,m4⟩; clear m3)
  |(go_at_call 13; with_reducible refine (c_turn_ok m4 fmA_64 fmA_sound fm_small (by decide) small1 small3 fm_s13 fm_m13 fm_turn).mono ?_; rintro r w5 ⟨rfl,GA,m5⟩; clear m4)
  |(go_at_call 29; with_reducible refine (of_fo w5).mono ?_; rintro r w6 ⟨mO,FO,rfl,m6⟩; have t6 := two_of m5 m6; clear m5 m6)
  |(go_at_call 17; with_reducible refine (t_del t6 foA_64 foA_sound fo_small small0 small2 fo_s02 fo_m02 fo_within (u := false) rfl).mono ?_; rintro r w7 ⟨rfl,t7⟩; clear t6)
  |(go_at_call 27; with_reducible refine (t_allO t7 (by decide)).mono ?_; rintro r w8 ⟨rfl,GO,t8⟩; clear t7)
  |(go_at_call 11; with_reducible refine (t_tris_b t8 fmB_sound fmB_small fm_tris).mono ?_; rintro r w9 ⟨ad9,cap9,rfl,k9,t9⟩; clear t8)
  |(go_at_call 14; refine (t_same k9 t9 (by decide)).mono ?_; rintro r w10 ⟨rfl,t10⟩; clear t9 k9)
  |(go_at_call 11; with_reducible refine (t_tris_a t10 foB_sound foB_small fo_tris).mono ?_; rintro r w11 ⟨ad11,cap11,rfl,k11,t11⟩; clear t10)
  |(go_at_call 14; refine (t_same k11 t11 (by decide)).mono ?_; rintro r w12 ⟨rfl,t12⟩; clear t11 k11)
  |(go_at_call 17; with_reducible refine (t_del t12 foB_64 foB_sound foB_small small1 small3 fo_s13 fo_m13 fo_within2 (u := true) rfl).mono ?_; rintro r w13 ⟨rfl,t13⟩; clear t12))
 go_ret
 exact ⟨rfl,t13.out.a.keep⟩
end Go.Proofs.YtbagikgpgdlkcaaGreatDoor
