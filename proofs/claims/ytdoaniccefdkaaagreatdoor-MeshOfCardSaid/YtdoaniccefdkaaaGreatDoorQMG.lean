/- trivetlaw15.MeshOf: the walk. -/
import Derived.Test.YtdoaniccefdkaaaGreatDoorQMF
import Derived.Test.YtdoaniccefdkaaaGreatDoorZd
set_option linter.all false
namespace Go.Proofs.YtdoaniccefdkaaaGreatDoor
open Go.RowKit Tvf Go.Maps Go.WideMaps

/-- both meshes: a triangle made in the document's -/
theorem BO.make_x {w wr : World} {l : List Pt} {mb xb nm nt ns B n : Nat} {M : MeshM} {F : Nat → Prop} {T : List Tri3} {S : List Seg3} {R : Nat → Prop} (H : BO w wr l mb xb nm nt ns B n M F T S R) (h64 : ∀ p, p ∈ l → pt64 p) (hb : nt ≤ 1000000) (a b c : Int) :
    Calls Tryz.prog 25 #[.pointer (some ⟨xb, 0, none⟩), .int .i64 a, .int .i64 b, .int .i64 c] wr fun r w' => r = .returned (.int .i64 (mkCode l T a b c)) ∧ Hid (∃ R', BO w w' l mb xb nm (nt + 1) ns B n M F (mkR l T a b c) S R') := by
  obtain ⟨ad, cap, vT, vS, h1, h2, h3⟩ := H.x
  have ht := H.ht
  refine (make15s h1 h64 (by omega) a b c).mono ?_
  rintro r w' ⟨rfl, vT', k1, k2, k3⟩
  have hst : Stay R wr w' := k2.mono h2
  refine ⟨rfl, _, H.turn_x hst ⟨ad, cap, vT', vS, k1, fun i hi => ?_, fun i hi => ?_⟩ ?_ H.hs⟩
  · rcases hi with hi | hi | hi | hi
    · exact .inl (h2 i (.inl hi))
    · exact .inl (h2 i (.inr (.inl hi)))
    · rcases k3 i hi with e | e
      · exact .inl (h2 i (.inr (.inr (.inl e))))
      · exact .inr ⟨e, (k1.tri.lt i hi).2⟩
    · exact .inl (h2 i (.inr (.inr (.inr hi))))
  · rcases hi with hi | hi
    · exact Nat.lt_of_lt_of_le (h3 i hi) hst.size
    · exact hi.2
  · unfold mkR
    split
    · rw [List.length_append]; exact Nat.add_le_add_right ht 1
    · omega

theorem BO.below {w wr w' : World} {l : List Pt} {mb xb nm nt ns B n : Nat} {M : MeshM} {F : Nat → Prop} {T : List Tri3} {S : List Seg3} {R : Nat → Prop} (H : BO w wr l mb xb nm nt ns B n M F T S R) (hb : Below wr.heap.size wr w') : BO w w' l mb xb nm nt ns B n M F T S R :=
  ⟨H.m.below hb, H.x.below hb, H.sd, H.P, H.hn, H.ht, H.hs, H.off, H.new⟩
/-- the document's mesh alone, made since w -/
def Dx (w wr : World) (l : List Pt) (xb B nt : Nat) (T : List Tri3) : Prop := Below w.heap.size w wr ∧ T.length ≤ nt ∧ ∃ R, RM wr B xb l T [] R ∧ ∀ i, R i → w.heap.size ≤ i
theorem Dx.keep {w wr : World} {l : List Pt} {xb B nt : Nat} {T : List Tri3} (h : Dx w wr l xb B nt T) : Below w.heap.size w wr := h.1
theorem Dx.below {w wr w' : World} {l : List Pt} {xb B nt : Nat} {T : List Tri3} (h : Dx w wr l xb B nt T) (hb : Below wr.heap.size wr w') : Dx w w' l xb B nt T := by
  obtain ⟨h1, h2, R, h3, h4⟩ := h
  exact ⟨h1.trans (hb.mono h1.size), h2, R, h3.below hb, h4⟩
theorem Dx.make {w wr : World} {l : List Pt} {xb B nt : Nat} {T : List Tri3} (h : Dx w wr l xb B nt T) (h64 : ∀ p, p ∈ l → pt64 p) (hb : nt ≤ 1000000) (a b c : Int) :
    Calls Tryz.prog 25 #[.pointer (some ⟨xb, 0, none⟩), .int .i64 a, .int .i64 b, .int .i64 c] wr fun r w' => r = .returned (.int .i64 (mkCode l T a b c)) ∧ Hid (Dx w w' l xb B (nt + 1) (mkR l T a b c)) := by
  obtain ⟨hk, ht, R, ⟨ad, cap, vT, vS, h1, h2, h3⟩, hR⟩ := h
  refine (make15s h1 h64 (by omega) a b c).mono ?_
  rintro r w' ⟨rfl, vT', k1, k2, k3⟩
  have hst : Stay R wr w' := k2.mono h2
  have hk2 : Below w.heap.size w w' := ⟨hst.os.trans hk.os, hst.tape.trans hk.tape, hst.output.trans hk.output, Nat.le_trans hk.size hst.size, fun i hi => (hst.block i (Nat.lt_of_lt_of_le hi hk.size) (fun e => by have := hR i e; omega)).trans (hk.block i hi)⟩
  refine ⟨rfl, hk2, ?_, Fx R wr w', ⟨ad, cap, vT', vS, k1, fun i hi => ?_, fun i hi => ?_⟩, fun i hi => ?_⟩
  · unfold mkR
    split
    · rw [List.length_append]; exact Nat.add_le_add_right ht 1
    · omega
  · rcases hi with hi | hi | hi | hi
    · exact .inl (h2 i (.inl hi))
    · exact .inl (h2 i (.inr (.inl hi)))
    · rcases k3 i hi with e | e
      · exact .inl (h2 i (.inr (.inr (.inl e))))
      · exact .inr ⟨e, (k1.tri.lt i hi).2⟩
    · exact .inl (h2 i (.inr (.inr (.inr hi))))
  · rcases hi with hi | hi
    · exact Nat.lt_of_lt_of_le (h3 i hi) hst.size
    · exact hi.2
  · rcases hi with hi | hi
    · exact hR i hi
    · exact Nat.le_trans hk.size hi.1

theorem tcells_at15 {w : World} {ad : Option Addr} {T : List Tri3} (h : TCells w ad T) {k : Nat} (hk : k < T.length) : ∃ b off, ad = some ⟨b, off, none⟩ ∧ w.cell? ⟨b, off + k * 3, none⟩ = some (.int .i64 (T.getD k (0, 0, 0)).1) ∧ w.cell? ⟨b, off + k * 3 + 1, none⟩ = some (.int .i64 (T.getD k (0, 0, 0)).2.1) ∧ w.cell? ⟨b, off + k * 3 + 2, none⟩ = some (.int .i64 (T.getD k (0, 0, 0)).2.2) := by
  obtain ⟨b, off, e, _, hc⟩ := h (by omega)
  exact ⟨b, off, e, hc k hk⟩

set_option maxRecDepth 100000 in
set_option maxHeartbeats 2000000 in
theorem of_okT (l : List Pt) (ad : Option Addr) (cap : Nat) (T : List Tri3) (at_ : Option Addr) (capt : Nat) (h64 : ∀ p, p ∈ l → pt64 p) (hk : allCode l = 0) (hl : l.length ≤ 1048576) (hT : T.length ≤ 1000000) (hok : allOk (emptyM l) T) (w : World) (hc : PCells w ad l) (hct : TCells w at_ T) :
    Calls Tryz.prog 23 #[.slice ad l.length cap, .slice at_ T.length capt] w fun r w' => ∃ mb F, r = .returned (.tuple #[.pointer (some ⟨mb, 0, none⟩), .int .i64 0]) ∧ MB w w' mb (3 * T.length) (foldM (emptyM l) T) F := by
  have HN := Lib.hid (new_mb l ad cap h64 hk hl w w (Below.refl _ _) hc)
  have HTC := Lib.hid hct
  have H64 := Lib.hid h64
  have HL := Lib.hid hl
  have HTL := Lib.hid hT
  have HOK := Lib.hid (allOk_at T _ hok)
  clear h64 hk hl hc hct hT hok
  go_enter Tryz.func23, Tryz.ntmps23
  go_wp2_with (go_at_call 27; refine HN.out.mono ?_; rintro r w1 ⟨mb, F, rfl, hm1, _, _⟩)
  have HM1 := Lib.hid hm1
  clear hm1
  go_loopw [21] (fun s21 wr => ∃ (k : Nat) (F : Nat → Prop), k ≤ T.length ∧ s21 = .int .i64 k ∧ Hid (MB w wr mb (3 * k) (foldM (emptyM l) (T.take k)) F)) (fun i _ => T.length - (intOf i).toNat)
  case atStart => exact ⟨0, F, Nat.zero_le _, rfl, HM1.out⟩
  case round =>
    obtain ⟨k, G, hk, rfl, HM⟩ := hrel
    by_cases hlt : k < T.length
    · obtain ⟨g, og, rfl, q0, q1, q2⟩ := tcells_at15 (HTC.out.below HM.out.keep) hlt
      have HTS := Lib.hid (take_snocT T k hlt)
      have hco := HOK.out k hlt
      have e : T[k] = T.getD k (0, 0, 0) := by rw [List.getD_eq_getElem?_getD, List.getElem?_eq_getElem hlt]; rfl
      rw [e] at hco
      clear e
      generalize T.getD k (0, 0, 0) = t at *
      obtain ⟨ta, tb, tc⟩ := t
      dsimp only at q0 q1 q2 hco
      have HMK : Hid (∀ v, Calls Tryz.prog 28 #[.pointer (some ⟨mb, 0, none⟩), .int .i64 ta, .int .i64 tb, .int .i64 tc] (wr.alloc v) fun r w2 => r = .returned (.int .i64 0) ∧ Hid (∃ F2, MB w w2 mb (3 * (k + 1)) (foldM (emptyM l) (T.take (k + 1))) F2)) := by
        intro v
        refine (make_mb (HM.out.below ((Below.refl _ wr).alloc (Nat.le_refl _) v)) (by rw [foldM_P]; exact H64.out) (by rw [foldM_P]; exact HL.out) (by have := HTL.out; omega) ta tb tc).mono ?_
        rintro r w2 ⟨rfl, hm2, _⟩
        refine ⟨by rw [hco], Fx G (wr.alloc v) w2, ?_⟩
        rw [HTS.out, foldM_snoc]
        exact hm2
      clear hco
      go_wp2_with (go_at_call 28; refine (HMK.out _).mono ?_; rintro r w2 ⟨rfl, HM2⟩)
      clear q0 q1 q2
      go_roundw
      case rel =>
        obtain ⟨F2, hm2⟩ := HM2.out
        exact ⟨k + 1, F2, by omega, (by have := HTL.out; first | rfl | rw [wrapS (by omega)]), hm2⟩
      case measure => have := HTL.out; first | (simp [intOf]; omega) | (rw [wrapS (by omega)]; simp [intOf]; omega)
    · have e : k = T.length := by omega
      subst e
      rw [List.take_length] at HM
      clear hlt hk
      go_wp2
      go_ret2
      exact ⟨mb, G, rfl, HM.out⟩

set_option maxRecDepth 100000 in
set_option maxHeartbeats 2000000 in
theorem of_stopT (l : List Pt) (ad : Option Addr) (cap : Nat) (T : List Tri3) (at_ : Option Addr) (capt : Nat) (h64 : ∀ p, p ∈ l → pt64 p) (hk : allCode l = 0) (hl : l.length ≤ 1048576) (hT : T.length ≤ 1000000) (j : Nat) (hj : j < T.length) (c : Int)
    (hok : ∀ k, k < j → makeCode (foldM (emptyM l) (T.take k)) (T.getD k (0, 0, 0)).1 (T.getD k (0, 0, 0)).2.1 (T.getD k (0, 0, 0)).2.2 = 0)
    (hstop : makeCode (foldM (emptyM l) (T.take j)) (T.getD j (0, 0, 0)).1 (T.getD j (0, 0, 0)).2.1 (T.getD j (0, 0, 0)).2.2 = c) (hc0 : c ≠ 0) (w : World) (hc : PCells w ad l) (hct : TCells w at_ T) :
    Calls Tryz.prog 23 #[.slice ad l.length cap, .slice at_ T.length capt] w fun r w' => r = .returned (.tuple #[.pointer none, .int .i64 c]) ∧ Below w.heap.size w w' := by
  have HN := Lib.hid (new_mb l ad cap h64 hk hl w w (Below.refl _ _) hc)
  have HTC := Lib.hid hct
  have H64 := Lib.hid h64
  have HL := Lib.hid hl
  have HTL := Lib.hid hT
  have HOK := Lib.hid hok
  have HST := Lib.hid hstop
  have HJ := Lib.hid hj
  have hcz : (c == 0) = false := by simpa using hc0
  clear h64 hk hl hc hct hT hok hstop hj
  go_enter Tryz.func23, Tryz.ntmps23
  go_wp2_with (go_at_call 27; refine HN.out.mono ?_; rintro r w1 ⟨mb, F, rfl, hm1, _, _⟩)
  have HM1 := Lib.hid hm1
  clear hm1
  go_loopw [21] (fun s21 wr => ∃ (k : Nat) (F : Nat → Prop), k ≤ j ∧ s21 = .int .i64 k ∧ Hid (MB w wr mb (3 * k) (foldM (emptyM l) (T.take k)) F)) (fun i _ => T.length - (intOf i).toNat)
  case atStart => exact ⟨0, F, Nat.zero_le _, rfl, HM1.out⟩
  case round =>
    obtain ⟨k, G, hk, rfl, HM⟩ := hrel
    have hlt : k < T.length := Nat.lt_of_le_of_lt hk HJ.out
    obtain ⟨g, og, rfl, q0, q1, q2⟩ := tcells_at15 (HTC.out.below HM.out.keep) hlt
    have HTS := Lib.hid (take_snocT T k hlt)
    by_cases hkj : k < j
    · have hco := HOK.out k hkj
      clear HST
      generalize T.getD k (0, 0, 0) = t at *
      obtain ⟨ta, tb, tc⟩ := t
      dsimp only at q0 q1 q2 hco
      have HMK : Hid (∀ v, Calls Tryz.prog 28 #[.pointer (some ⟨mb, 0, none⟩), .int .i64 ta, .int .i64 tb, .int .i64 tc] (wr.alloc v) fun r w2 => r = .returned (.int .i64 0) ∧ Hid (∃ F2, MB w w2 mb (3 * (k + 1)) (foldM (emptyM l) (T.take (k + 1))) F2)) := by
        intro v
        refine (make_mb (HM.out.below ((Below.refl _ wr).alloc (Nat.le_refl _) v)) (by rw [foldM_P]; exact H64.out) (by rw [foldM_P]; exact HL.out) (by have := HTL.out; omega) ta tb tc).mono ?_
        rintro r w2 ⟨rfl, hm2, _⟩
        refine ⟨by rw [hco], Fx G (wr.alloc v) w2, ?_⟩
        rw [HTS.out, foldM_snoc]
        exact hm2
      clear hco HOK
      go_wp2_with (go_at_call 28; refine (HMK.out _).mono ?_; rintro r w2 ⟨rfl, HM2⟩)
      clear q0 q1 q2
      go_roundw
      case rel =>
        obtain ⟨F2, hm2⟩ := HM2.out
        exact ⟨k + 1, F2, by omega, (by have := HTL.out; first | rfl | rw [wrapS (by omega)]), hm2⟩
      case measure => have := HTL.out; first | (simp [intOf]; omega) | (rw [wrapS (by omega)]; simp [intOf]; omega)
    · have e : k = j := by omega
      subst e
      have hco := HST.out
      clear HOK HST hkj
      generalize T.getD k (0, 0, 0) = t at *
      obtain ⟨ta, tb, tc⟩ := t
      dsimp only at q0 q1 q2 hco
      have HMK : Hid (∀ v, Calls Tryz.prog 28 #[.pointer (some ⟨mb, 0, none⟩), .int .i64 ta, .int .i64 tb, .int .i64 tc] (wr.alloc v) fun r w2 => r = .returned (.int .i64 c) ∧ Below w.heap.size w w2) := by
        intro v
        refine (make_mb (HM.out.below ((Below.refl _ wr).alloc (Nat.le_refl _) v)) (by rw [foldM_P]; exact H64.out) (by rw [foldM_P]; exact HL.out) (by have := HTL.out; omega) ta tb tc).mono ?_
        rintro r w2 ⟨rfl, hm2, _⟩
        exact ⟨by rw [hco], hm2.keep⟩
      clear hco
      go_wp2_with (go_at_call 28; refine (HMK.out _).mono ?_; rintro r w2 ⟨rfl, hb2⟩)
      go_ret2
      exact ⟨rfl, hb2⟩

set_option maxRecDepth 100000 in
set_option maxHeartbeats 1000000 in
theorem of_bad (l : List Pt) (ad : Option Addr) (cap : Nat) (v : Value) (h64 : ∀ p, p ∈ l → pt64 p) (hk : allCode l ≠ 0) (w : World) (hc : PCells w ad l) :
    Calls Tryz.prog 23 #[.slice ad l.length cap, v] w fun r w' => r = .returned (.tuple #[.pointer none, .int .i64 (allCode l)]) ∧ Below w.heap.size w w' := by
  have HN := Lib.hid (new_bad l ad cap h64 hk w hc)
  clear h64 hc
  generalize allCode l = k at *
  have hkz : (k == 0) = false := by simpa using hk
  go_enter Tryz.func23, Tryz.ntmps23
  go_wp2_with (go_at_call 27; refine HN.out.mono ?_; rintro r w1 ⟨rfl, hb1⟩)
  go_ret2
  exact ⟨rfl, hb1⟩

/-- a triangle's code where those ahead of it are made -/
def codeK (l : List Pt) (T : List Tri3) (k : Nat) : Int := makeCode (foldM (emptyM l) (T.take k)) (T.getD k (0, 0, 0)).1 (T.getD k (0, 0, 0)).2.1 (T.getD k (0, 0, 0)).2.2
theorem allOk_all : ∀ (T : List Tri3) (M : MeshM), (∀ k, k < T.length → makeCode (foldM M (T.take k)) (T.getD k (0, 0, 0)).1 (T.getD k (0, 0, 0)).2.1 (T.getD k (0, 0, 0)).2.2 = 0) → allOk M T
  | [], _, _ => trivial
  | t :: r, M, h => by
    refine ⟨h 0 (by simp), allOk_all r _ fun k hk => ?_⟩
    have := h (k + 1) (by simpa using hk)
    rw [List.take_succ_cons, foldM_cons] at this
    exact this
theorem first_bad (f : Nat → Int) : ∀ n, (∀ k, k < n → f k = 0) ∨ ∃ j, j < n ∧ f j ≠ 0 ∧ ∀ k, k < j → f k = 0
  | 0 => .inl fun k hk => absurd hk (by omega)
  | n + 1 => by
    rcases first_bad f n with h | ⟨j, h1, h2, h3⟩
    · by_cases e : f n = 0
      · refine .inl fun k hk => ?_
        rcases Nat.lt_or_ge k n with q | q
        · exact h k q
        · rw [show k = n by omega]; exact e
      · exact .inr ⟨n, by omega, e, h⟩
    · exact .inr ⟨j, by omega, h2, h3⟩
/-- up to where all are made, both hold the same -/
theorem twin_take {l : List Pt} {T : List Tri3} : ∀ n, n ≤ T.length → (∀ k, k < n → codeK l T k = 0) → Twin (foldM (emptyM l) (T.take n)) (T.take n) ∧ (foldM (emptyM l) (T.take n)).P = l
  | 0, _, _ => ⟨Twin.empty l, rfl⟩
  | n + 1, hn, h => by
    obtain ⟨h1, h2⟩ := twin_take n (by omega) (fun k hk => h k (by omega))
    have hc := h n (by omega)
    unfold codeK at hc
    have e := take_snocT T n (by omega)
    rw [e, foldM_snoc]
    have hm := h1.make (T.getD n (0, 0, 0)).1 (T.getD n (0, 0, 0)).2.1 (T.getD n (0, 0, 0)).2.2
    unfold mkR at hm
    rw [h1.code, if_pos hc] at hm
    exact ⟨hm, by rw [makeR_P]; exact h2⟩
theorem mk_take {l : List Pt} {T : List Tri3} {n : Nat} (hn : n < T.length) (h : ∀ k, k < n → codeK l T k = 0) : mkCode l (T.take n) (T.getD n (0, 0, 0)).1 (T.getD n (0, 0, 0)).2.1 (T.getD n (0, 0, 0)).2.2 = codeK l T n ∧ (codeK l T n = 0 → mkR l (T.take n) (T.getD n (0, 0, 0)).1 (T.getD n (0, 0, 0)).2.1 (T.getD n (0, 0, 0)).2.2 = T.take (n + 1)) := by
  obtain ⟨h1, h2⟩ := twin_take (l := l) n (by omega) h
  have e := h1.code (T.getD n (0, 0, 0)).1 (T.getD n (0, 0, 0)).2.1 (T.getD n (0, 0, 0)).2.2
  rw [h2] at e
  refine ⟨e, fun hc => ?_⟩
  unfold mkR
  rw [e, if_pos (by unfold codeK at hc; exact hc), take_snocT T n hn]
theorem FixT.empty : FixT (fun _ _ => none) [] := ⟨List.Pairwise.nil, fun y => ⟨fun h => absurd h (by simp), fun h => (nomatch h)⟩⟩
theorem foldM_fx : ∀ (T : List Tri3) (M : MeshM), (foldM M T).fx = M.fx
  | [], _ => rfl
  | t :: r, M => by
    rw [foldM_cons, foldM_fx r]
    unfold makeR; split <;> rfl

set_option maxRecDepth 100000 in
set_option maxHeartbeats 1000000 in
theorem meshOf_big (l : List Pt) (ad : Option Addr) (cap : Nat) (T : List Tri3) (at_ : Option Addr) (capt : Nat) (hb : 30 < l.length ∨ 60 < T.length) (w : World) :
    Calls Tryz.prog 4 #[.slice ad l.length cap, .slice at_ T.length capt] w fun r w' => r = .returned (.bool true) ∧ Below w.heap.size w w' := by
  by_cases h1 : 30 < l.length
  · have h1z : (30 : Int) < l.length := by omega
    clear hb
    go_enter Tryz.func4, Tryz.ntmps4
    go_wp2
    go_ret
    exact ⟨rfl, Below.refl _ _⟩
  · have h2 : 60 < T.length := hb.resolve_left h1
    have h1z : ¬(30 : Int) < l.length := by omega
    have h2z : (60 : Int) < T.length := by omega
    clear hb
    go_enter Tryz.func4, Tryz.ntmps4
    go_wp2
    go_ret
    exact ⟨rfl, Below.refl _ _⟩

set_option maxRecDepth 100000 in
set_option maxHeartbeats 2000000 in
theorem meshOf_bad (l : List Pt) (ad : Option Addr) (cap : Nat) (T : List Tri3) (at_ : Option Addr) (capt : Nat) (h1 : l.length ≤ 30) (h2 : T.length ≤ 60) (h64 : ∀ p, p ∈ l → pt64 p) (hk : allCode l ≠ 0) (w : World) (hc : PCells w ad l) :
    Calls Tryz.prog 4 #[.slice ad l.length cap, .slice at_ T.length capt] w fun r w' => r = .returned (.bool true) ∧ Below w.heap.size w w' := by
  have HO := Lib.hid (of_bad l ad cap (.slice at_ T.length capt) h64 hk w hc)
  have HN := Lib.hid (fun W (hb : Below w.heap.size w W) => new15_bad l ad cap h64 hk W (hc.below hb))
  have h1z : ¬(30 : Int) < l.length := by omega
  have h2z : ¬(60 : Int) < T.length := by omega
  have HL : Hid (T.length ≤ 60) := h2
  clear h64 hc h1 h2
  generalize allCode l = k at *
  have hkz : (k == 0) = false := by simpa using hk
  go_enter Tryz.func4, Tryz.ntmps4
  go_wp2_with (first
    | (go_at_call 23; with_reducible refine HO.out.mono ?_; rintro r w1 ⟨rfl, hb1⟩; have B1 := Lib.hid hb1)
    | (go_at_call 24; with_reducible refine (HN.out _ B1.out).mono ?_; rintro r w2 ⟨rfl, hb2⟩; have B2 := Lib.hid (bseq B1.out hb2)))
  go_loopw [8, 9] (fun s8 s9 wr => s8 = .int .i64 k ∧ s9 = .int .i64 0 ∧ wr = w2) (fun _ _ _ => 0)
  case atStart => exact ⟨rfl, rfl, rfl⟩
  case round =>
    obtain ⟨rfl, rfl, rfl⟩ := hrel
    by_cases ht : 0 < T.length
    · have htz : (0 : Int) < (T.length : Int) := by omega
      go_wp2
      go_ret
      exact ⟨by simp, B2.out⟩
    · have htz : ¬(0 : Int) < (T.length : Int) := by omega
      go_wp2
      go_ret
      exact ⟨by simp, B2.out⟩

set_option maxRecDepth 100000 in
set_option maxHeartbeats 4000000 in
theorem meshOf_ok (l : List Pt) (ad : Option Addr) (cap : Nat) (T : List Tri3) (at_ : Option Addr) (capt : Nat) (h1 : l.length ≤ 30) (h2 : T.length ≤ 60) (h64 : ∀ p, p ∈ l → pt64 p) (hk : allCode l = 0) (w : World) (hc : PCells w ad l) (hct : TCells w at_ T) (hall : ∀ k, k < T.length → codeK l T k = 0) :
    Calls Tryz.prog 4 #[.slice ad l.length cap, .slice at_ T.length capt] w fun r w' => r = .returned (.bool true) ∧ Below w.heap.size w w' := by
  have HO := Lib.hid (of_okT l ad cap T at_ capt h64 hk (by omega) (by omega) (allOk_all T _ hall) w hc hct)
  have HN := Lib.hid (fun W (hb : Below w.heap.size w W) => new15_ok l ad cap h64 hk (by omega) W (hc.below hb))
  have H64 := Lib.hid h64
  have HTC := Lib.hid (fun W (hb : Below w.heap.size w W) (k : Nat) (hk' : k < T.length) => tcells_at15 (hct.below hb) hk')
  have HMK := Lib.hid (fun k (hk' : k < T.length) => mk_take (l := l) hk' (fun j hj => hall j (by omega)))
  have HALL := Lib.hid hall
  have HTW := Lib.hid (twin_take (l := l) (T := T) T.length (Nat.le_refl _) hall)
  rw [List.take_length] at HTW
  have HOKP : Hid (∀ p, p ∈ l → ptOK p = true) := by
    unfold allCode at hk
    split at hk
    · cases hk
    · split at hk
      · rename_i h; exact List.all_eq_true.1 h
      · cases hk
  have h1z : ¬(30 : Int) < l.length := by omega
  have h2z : ¬(60 : Int) < T.length := by omega
  have HL : Hid (l.length ≤ 30 ∧ T.length ≤ 60) := ⟨h1, h2⟩
  have HFX := Lib.hid (foldM_fx T (emptyM l))
  have HSD := Lib.hid HTW.out.1.s
  have HPP := Lib.hid HTW.out.2
  clear h64 hk hc hct hall h1 h2
  generalize foldM (emptyM l) T = M at *
  go_enter Tryz.func4, Tryz.ntmps4
  go_wp2_with (first
    | (go_at_call 23; (with_reducible refine HO.out.mono ?_); rintro r w1 ⟨mb, F, rfl, hm1⟩; have HM1 := Lib.hid hm1; have B1 := Lib.hid hm1.keep; clear hm1)
    | (go_at_call 24; (with_reducible refine (HN.out _ B1.out).mono ?_); rintro r w2 ⟨xb, R, rfl, hx2, hb2, hR⟩; have HB2 : Hid (∃ R', BO w w2 l mb xb (3 * T.length) 0 0 w1.heap.size (3 * T.length) M F [] [] R') := ⟨R, HM1.out.below hb2, hx2, HSD.out, HPP.out, Nat.le_refl _, Nat.le_refl _, Nat.le_refl _, fun i hi e => by have := HM1.out.at_.flt i e; have := hR i hi; omega, fun i hi => Nat.le_trans B1.out.size (hR i hi)⟩; clear hx2 hb2 hR))
  go_loopw [8, 9] (fun s8 s9 wr => ∃ i : Nat, i ≤ T.length ∧ s8 = .int .i64 0 ∧ s9 = .int .i64 i ∧ Hid (∃ R', BO w wr l mb xb (3 * T.length) i 0 w1.heap.size (3 * T.length) M F (T.take i) [] R')) (fun _ s9 _ => T.length - (intOf s9).toNat)
  case atStart => exact ⟨0, Nat.zero_le _, rfl, rfl, HB2.out⟩
  case round =>
    obtain ⟨i, hi, rfl, rfl, HX⟩ := hrel
    rename World => wr
    have HKX : Hid (Below w.heap.size w wr) := by obtain ⟨R', H⟩ := HX.out; exact H.m.keep
    by_cases hlt : i < T.length
    · obtain ⟨tb, to_, rfl, _, _, _⟩ := HTC.out _ HKX.out i hlt
      have HQ : Hid (∀ W, Below w.heap.size w W → W.cell? ⟨tb, to_ + i * 3, none⟩ = some (.int .i64 (T.getD i (0, 0, 0)).1) ∧ W.cell? ⟨tb, to_ + i * 3 + 1, none⟩ = some (.int .i64 (T.getD i (0, 0, 0)).2.1) ∧ W.cell? ⟨tb, to_ + i * 3 + 2, none⟩ = some (.int .i64 (T.getD i (0, 0, 0)).2.2)) := fun W hb => by
        obtain ⟨_, _, e, h⟩ := HTC.out W hb i hlt
        cases e
        exact h
      have HMI := Lib.hid (HMK.out i hlt)
      have HCI := Lib.hid (HALL.out i hlt)
      have HMI1 := Lib.hid HMI.out.1
      have HMI2 := Lib.hid (HMI.out.2 HCI.out)
      rw [HCI.out] at HMI1
      clear HMI
      generalize T.getD i (0, 0, 0) = t at *
      obtain ⟨ta, tb', tc⟩ := t
      dsimp only at HQ HMI1 HMI2
      have hz : (i : Int) < (T.length : Int) := by omega
      have hi0 : (0 : Int) ≤ (i : Int) := by omega
      have hw1 : wrap64 ((i : Int) + 1) = (i : Int) + 1 := by have := HL.out; unfold wrap64; omega
      have HMX : Hid (∀ W, Below wr.heap.size wr W → Calls Tryz.prog 25 #[.pointer (some ⟨xb, 0, none⟩), .int .i64 ta, .int .i64 tb', .int .i64 tc] W fun r w' => r = .returned (.int .i64 0) ∧ Hid (∃ R', BO w w' l mb xb (3 * T.length) (i + 1) 0 w1.heap.size (3 * T.length) M F (T.take (i + 1)) [] R')) := fun W hb => by
        obtain ⟨R', H⟩ := HX.out
        have := BO.make_x (H.below hb) H64.out (by have := HL.out; omega) ta tb' tc
        rw [HMI1.out, HMI2.out] at this
        exact this
      have HM8 := Lib.hid (HMX.out wr.drew (Below.refl _ _).drew)
      have n0 := HQ.out wr.drew HKX.out.drew
      go_upto_region 8 with fail
      rename (∀ (a : Act) (w : World), Code.wp _ _ _ a w → _) => hcA
      have HCA := Lib.hid (fun (_ : Unit) => hcA)
      clear hcA
      go_region_held3 (fun W => W.cell? ⟨tb, to_ + i * 3, none⟩ = some (.int .i64 ta) ∧ W.cell? ⟨tb, to_ + i * 3 + 1, none⟩ = some (.int .i64 tb') ∧ W.cell? ⟨tb, to_ + i * 3 + 2, none⟩ = some (.int .i64 tc)) (first | exact n0 | exact n1)
        (first | (go_at_call 25; (with_reducible refine HM8.out.mono ?_); rintro r w3 ⟨rfl, HX3⟩; have n1 := HQ.out w3 (by obtain ⟨R3, H3⟩ := HX3.out; exact H3.m.keep)))
      clear n0 n1 HM8
      have hcA := HCA.out ()
      go_wp2
      go_roundw
      case rel => exact ⟨i + 1, by omega, rfl, by (try rw [hw1]); rfl, HX3.out⟩
      case measure => (try rw [hw1]); simp only [intOf]; omega
    · have e : i = T.length := by omega
      subst e
      have hz : ¬(T.length : Int) < (T.length : Int) := by omega
      rw [List.take_length] at HX
      have HST : Hid (Calls Tryz.prog 26 #[.pointer (some ⟨mb, 0, none⟩), .pointer (some ⟨xb, 0, none⟩), .int .i64 0, .int .i64 1] wr fun r w' => r = .returned (.bool true) ∧ Below wr.heap.size wr w') := by
        obtain ⟨R', H⟩ := HX.out
        obtain ⟨ad', cap', vT, vS, hr, _, _⟩ := H.x
        exact stands_walk (St.mk H.m.at_ hr HTW.out.1 H.P (by rw [HFX.out]; exact FixT.empty) H64.out HOKP.out (by have := HL.out; omega) (by have := HL.out; omega) (by simp) (by have := HL.out; omega)) (by unfold i64ok; omega) (by unfold i64ok; omega)
      go_wp2_with (go_at_call 26; (with_reducible refine HST.out.mono ?_); rintro r w3 ⟨rfl, hb3⟩)
      go_ret
      exact ⟨rfl, bseq HKX.out hb3⟩

set_option maxRecDepth 100000 in
set_option maxHeartbeats 4000000 in
theorem meshOf_stop (l : List Pt) (ad : Option Addr) (cap : Nat) (T : List Tri3) (at_ : Option Addr) (capt : Nat) (h1 : l.length ≤ 30) (h2 : T.length ≤ 60) (h64 : ∀ p, p ∈ l → pt64 p) (hk : allCode l = 0) (w : World) (hc : PCells w ad l) (hct : TCells w at_ T) (j : Nat) (hj : j < T.length) (c : Int) (hcj : codeK l T j = c) (hc0 : c ≠ 0) (hall : ∀ k, k < j → codeK l T k = 0) :
    Calls Tryz.prog 4 #[.slice ad l.length cap, .slice at_ T.length capt] w fun r w' => r = .returned (.bool true) ∧ Below w.heap.size w w' := by
  have HO := Lib.hid (of_stopT l ad cap T at_ capt h64 hk (by omega) (by omega) j hj c hall hcj hc0 w hc hct)
  have HN := Lib.hid (fun W (hb : Below w.heap.size w W) => new15_ok l ad cap h64 hk (by omega) W (hc.below hb))
  have H64 := Lib.hid h64
  have HTC := Lib.hid (fun W (hb : Below w.heap.size w W) (k : Nat) (hk' : k < T.length) => tcells_at15 (hct.below hb) hk')
  have HMK := Lib.hid (fun k (hk' : k ≤ j) => mk_take (l := l) (T := T) (n := k) (by omega) (fun i hi => hall i (by omega)))
  have HALL := Lib.hid hall
  have HCJ := Lib.hid hcj
  have HJ := Lib.hid hj
  have h1z : ¬(30 : Int) < l.length := by omega
  have h2z : ¬(60 : Int) < T.length := by omega
  have HL : Hid (l.length ≤ 30 ∧ T.length ≤ 60) := ⟨h1, h2⟩
  have hcz : (c == 0) = false := by simpa using hc0
  clear h64 hk hc hct hall h1 h2 hcj hj
  go_enter Tryz.func4, Tryz.ntmps4
  go_wp2_with (first
    | (go_at_call 23; (with_reducible refine HO.out.mono ?_); rintro r w1 ⟨rfl, hb1⟩; have B1 := Lib.hid hb1; clear hb1)
    | (go_at_call 24; (with_reducible refine (HN.out _ B1.out).mono ?_); rintro r w2 ⟨xb, R, rfl, hx2, hb2, hR⟩; have HX2 : Hid (Dx w w2 l xb w1.heap.size 0 []) := ⟨bseq B1.out hb2, Nat.le_refl _, R, hx2, fun i hi => Nat.le_trans B1.out.size (hR i hi)⟩; clear hx2 hb2 hR))
  go_loopw [8, 9] (fun s8 s9 wr => (∃ i : Nat, i ≤ j ∧ s8 = .int .i64 0 ∧ s9 = .int .i64 i ∧ Hid (Dx w wr l xb w1.heap.size i (T.take i))) ∨ (s8 = .int .i64 c ∧ s9 = .int .i64 ((j + 1 : Nat) : Int) ∧ Hid (Below w.heap.size w wr))) (fun _ s9 _ => T.length + 1 - (intOf s9).toNat)
  case atStart => exact .inl ⟨0, Nat.zero_le _, rfl, rfl, HX2.out⟩
  case round =>
    rcases hrel with ⟨i, hi, rfl, rfl, HX⟩ | ⟨rfl, rfl, HKX⟩
    · have hlt : i < T.length := by have := HJ.out; omega
      have HKX : Hid (Below w.heap.size w _) := HX.out.keep
      obtain ⟨tb, to_, rfl, _, _, _⟩ := HTC.out _ HKX.out i hlt
      have HQ : Hid (∀ W, Below w.heap.size w W → W.cell? ⟨tb, to_ + i * 3, none⟩ = some (.int .i64 (T.getD i (0, 0, 0)).1) ∧ W.cell? ⟨tb, to_ + i * 3 + 1, none⟩ = some (.int .i64 (T.getD i (0, 0, 0)).2.1) ∧ W.cell? ⟨tb, to_ + i * 3 + 2, none⟩ = some (.int .i64 (T.getD i (0, 0, 0)).2.2)) := fun W hb => by
        obtain ⟨_, _, e, h⟩ := HTC.out W hb i hlt
        cases e
        exact h
      have HMI := Lib.hid (HMK.out i hi)
      have hz : (i : Int) < (T.length : Int) := by omega
      have hi0 : (0 : Int) ≤ (i : Int) := by omega
      have hw1 : wrap64 ((i : Int) + 1) = (i : Int) + 1 := by have := HL.out; unfold wrap64; omega
      rename World => wr
      by_cases hij : i < j
      · have HCI := Lib.hid (HALL.out i hij)
        have HMI1 := Lib.hid HMI.out.1
        have HMI2 := Lib.hid (HMI.out.2 HCI.out)
        rw [HCI.out] at HMI1
        clear HMI
        generalize T.getD i (0, 0, 0) = t at *
        obtain ⟨ta, tb', tc⟩ := t
        dsimp only at HQ HMI1 HMI2
        have HMX : Hid (∀ W, Below wr.heap.size wr W → Calls Tryz.prog 25 #[.pointer (some ⟨xb, 0, none⟩), .int .i64 ta, .int .i64 tb', .int .i64 tc] W fun r w' => r = .returned (.int .i64 0) ∧ Hid (Dx w w' l xb w1.heap.size (i + 1) (T.take (i + 1)))) := fun W hb => by
          have := Dx.make (HX.out.below hb) H64.out (by have := HL.out; omega) ta tb' tc
          rw [HMI1.out, HMI2.out] at this
          exact this
        have HM8 := Lib.hid (HMX.out wr.drew (Below.refl _ _).drew)
        have n0 := HQ.out wr.drew HKX.out.drew
        go_upto_region 8 with fail
        rename (∀ (a : Act) (w : World), Code.wp _ _ _ a w → _) => hcA
        have HCA := Lib.hid (fun (_ : Unit) => hcA)
        clear hcA
        go_region_held3 (fun W => W.cell? ⟨tb, to_ + i * 3, none⟩ = some (.int .i64 ta) ∧ W.cell? ⟨tb, to_ + i * 3 + 1, none⟩ = some (.int .i64 tb') ∧ W.cell? ⟨tb, to_ + i * 3 + 2, none⟩ = some (.int .i64 tc)) (first | exact n0 | exact n1)
          (first | (go_at_call 25; (with_reducible refine HM8.out.mono ?_); rintro r w3 ⟨rfl, HX3⟩; have n1 := HQ.out w3 (HX3.out.keep)))
        clear n0 n1 HM8
        have hcA := HCA.out ()
        go_wp2
        go_roundw
        case rel => exact .inl ⟨i + 1, by omega, rfl, by (try rw [hw1]); rfl, HX3.out⟩
        case measure => (try rw [hw1]); simp only [intOf]; omega
      · have e : i = j := by omega
        subst e
        have HMI1 := Lib.hid HMI.out.1
        rw [HCJ.out] at HMI1
        clear HMI
        generalize T.getD i (0, 0, 0) = t at *
        obtain ⟨ta, tb', tc⟩ := t
        dsimp only at HQ HMI1
        have HMX : Hid (∀ W, Below wr.heap.size wr W → Calls Tryz.prog 25 #[.pointer (some ⟨xb, 0, none⟩), .int .i64 ta, .int .i64 tb', .int .i64 tc] W fun r w' => r = .returned (.int .i64 c) ∧ Hid (Below w.heap.size w w')) := fun W hb => by
          have := Dx.make (HX.out.below hb) H64.out (by have := HL.out; omega) ta tb' tc
          rw [HMI1.out] at this
          exact this.mono (fun r w' h => ⟨h.1, h.2.out.keep⟩)
        have HM8 := Lib.hid (HMX.out wr.drew (Below.refl _ _).drew)
        have n0 := HQ.out wr.drew HKX.out.drew
        go_upto_region 8 with fail
        rename (∀ (a : Act) (w : World), Code.wp _ _ _ a w → _) => hcA
        have HCA := Lib.hid (fun (_ : Unit) => hcA)
        clear hcA
        go_region_held3 (fun W => W.cell? ⟨tb, to_ + i * 3, none⟩ = some (.int .i64 ta) ∧ W.cell? ⟨tb, to_ + i * 3 + 1, none⟩ = some (.int .i64 tb') ∧ W.cell? ⟨tb, to_ + i * 3 + 2, none⟩ = some (.int .i64 tc)) (first | exact n0 | exact n1)
          (first | (go_at_call 25; (with_reducible refine HM8.out.mono ?_); rintro r w3 ⟨rfl, HX3⟩; have n1 := HQ.out w3 (HX3.out)))
        clear n0 n1 HM8
        have hcA := HCA.out ()
        go_wp2
        go_roundw
        case rel => exact .inr ⟨rfl, by (try rw [hw1]); rfl, HX3.out⟩
        case measure => (try rw [hw1]); simp only [intOf]; omega
    · by_cases hjt : j + 1 < T.length
      · have hz : ((j + 1 : Nat) : Int) < (T.length : Int) := by omega
        go_wp2
        go_ret
        exact ⟨by simp, HKX.out⟩
      · have hz : ¬((j + 1 : Nat) : Int) < (T.length : Int) := by omega
        go_wp2
        go_ret
        exact ⟨by simp, HKX.out⟩

end Go.Proofs.YtdoaniccefdkaaaGreatDoor
