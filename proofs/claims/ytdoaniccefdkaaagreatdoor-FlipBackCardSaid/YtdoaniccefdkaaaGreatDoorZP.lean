/- Part of the proof. No conditions. -/
import Derived.Test.YtdoaniccefdkaaaGreatDoorZO

set_option linter.all false
/- trivetref01.Add: the walk where no recursion is wanted. -/
namespace Go.Proofs.YtdoaniccefdkaaaGreatDoor
open Go.RowKit Tvf Go.Maps Go.WideMaps

set_option maxRecDepth 100000 in
set_option maxHeartbeats 4000000 in
theorem nadd_main {x y : NumP} {ad bd : Option Addr} {ca cb e : Nat} {w : World} (hdx : DAt w ad x.D) (hdy : DAt w bd y.D) (he : e + 1 ≤ 190) (hrx : Rng e x) (hry : Rng e y) (hwx : Wf x) (hwy : Wf y) (hx0 : x.S ≠ 0) (hy0 : y.S ≠ 0) (hm : x.S = y.S ∨ mv y ≤ mv x) :
    Calls Tryz.prog 248 #[NumA x ad ca, NumA y bd cb] w fun r w' => ∃ z v, r = .returned v ∧ NumV w' v z ∧ Wf z ∧ nv z = nv x + nv y ∧ Rng (e + 1) z ∧ Below w.heap.size w w' := by
  have HDX := Lib.hid (fun W (hb : Below w.heap.size w W) i hi => digit_walk (x := x) (ad := ad) (cap := ca) (hdx.below hb) ⟨by have := hrx.lo; omega, by have := hrx.hi; omega⟩ i hi)
  have HDY := Lib.hid (fun W (hb : Below w.heap.size w W) i hi => digit_walk (x := y) (ad := bd) (cap := cb) (hdy.below hb) ⟨by have := hry.lo; omega, by have := hry.hi; omega⟩ i hi)
  have HSZ : Hid (∀ W, Below w.heap.size w W → Calls Tryz.prog 286 #[NumA x ad ca, NumA y bd cb] W fun r w' => r = .returned (.int .i64 (sgnI ((mv x : Int) - mv y))) ∧ Below W.heap.size W w') :=
    fun W hb => size_walk (hdx.below hb) (hdy.below hb) ⟨by have := hrx.lo; omega, by have := hrx.hi; omega⟩ ⟨by have := hry.lo; omega, by have := hry.hi; omega⟩ hwx hwy
  obtain ⟨f, hf⟩ : ∃ f : Int, min x.E y.E = f := ⟨_, rfl⟩
  obtain ⟨t, ht⟩ : ∃ t : Int, max (x.E + x.D.length) (y.E + y.D.length) = t := ⟨_, rfl⟩
  have hwx1 : wrap64 (x.E + (x.D.length : Int)) = x.E + x.D.length := by have := hrx.lo; have := hrx.hi; unfold wrap64; omega
  have hwy1 : wrap64 (y.E + (y.D.length : Int)) = y.E + y.D.length := by have := hry.lo; have := hry.hi; unfold wrap64; omega
  have HB : Hid (f ≤ x.E ∧ f ≤ y.E ∧ x.E + x.D.length ≤ t ∧ y.E + y.D.length ≤ t ∧ -(e : Int) ≤ f ∧ t ≤ e ∧ f ≤ t) := by have := hrx.lo; have := hrx.hi; have := hry.lo; have := hry.hi; unfold Hid; omega
  obtain ⟨n, hn⟩ : ∃ n : Nat, Hid (t = f + n) := ⟨(t - f).toNat, by have := HB.out; unfold Hid; omega⟩
  have HE := Lib.hid he
  have HWX := Lib.hid hwx
  have HWY := Lib.hid hwy
  have HXS : Hid (x.S = 1 ∨ x.S = -1) := by have := hwx.sg; unfold Hid; omega
  have HYS : Hid (y.S = 1 ∨ y.S = -1) := by have := hwy.sg; unfold Hid; omega
  obtain ⟨i0, hi, hz0, hz1, hz2⟩ := info_parts infoI64
  have HSG : Hid (∀ sg : Int, (sg = 1 ∧ x.S = y.S) ∨ (sg = -1 ∧ ¬x.S = y.S) → (sg = 1 ∧ y.S = x.S) ∨ (sg = -1 ∧ y.S = -x.S ∧ mv y ≤ mv x)) := by
    intro sg h
    have := HXS.out; have := HYS.out
    rcases h with ⟨h1, h2⟩ | ⟨h1, h2⟩
    · exact .inl ⟨h1, h2.symm⟩
    · exact .inr ⟨h1, by omega, hm.resolve_left h2⟩
  obtain ⟨R, hR⟩ : ∃ R : Int, Hid (sgnI ((mv x : Int) - mv y) = R) := ⟨_, rfl⟩
  have HRN : Hid (¬x.S = y.S → ¬R < 0) := fun h => by
    have := hm.resolve_left h
    rw [← hR.out]; unfold sgnI; split
    · omega
    · split <;> omega
  rw [hR.out] at HSZ
  unfold NumA at *
  clear hdx hdy hrx hry hwx hwy hm he hR
  have h3 : (x.S != y.S) = false ∧ Hid (x.S = y.S) ∨ ¬x.S = y.S := by
    by_cases h : x.S = y.S
    · exact .inl ⟨by rw [h]; simp, h⟩
    · exact .inr h
  rcases h3 with ⟨hne, HXY⟩ | hxy
  · go_enter Tryz.func248, Tryz.ntmps248
    go_wp2
    have HBX := boxes4 (w := w) (.int .i64 x.S) (.slice ad x.D.length ca) (.int .i64 x.E) (.int .i64 y.S) (.slice bd y.D.length cb) (.int .i64 y.E) (.int .i64 0) (.slice none 0 0) (.int .i64 0) (.int .i64 x.S) (.slice none 0 0) (.int .i64 f) 191 (Below.refl _ _)
    rw [show (((w.alloc (.cells #[.int .i64 x.S, .slice ad x.D.length ca, .int .i64 x.E] 191)).alloc (.cells #[.int .i64 y.S, .slice bd y.D.length cb, .int .i64 y.E] 191)).alloc (.cells #[.int .i64 0, .slice none 0 0, .int .i64 0] 191)).heap.size = w.heap.size + 1 + 1 + 1 from by simp] at HBX
    obtain ⟨sg, hsg⟩ : ∃ sg : Int, sg = 1 := ⟨_, rfl⟩
    have HSGX := Lib.hid (HSG.out sg (.inl ⟨hsg, HXY.out⟩))
    have HSV : Hid (sg = 1 ∨ sg = -1) := .inl hsg
    generalize w.heap.size + 1 + 1 + 1 = B8 at *
    generalize (((w.alloc (.cells #[.int .i64 x.S, .slice ad x.D.length ca, .int .i64 x.E] 191)).alloc (.cells #[.int .i64 y.S, .slice bd y.D.length cb, .int .i64 y.E] 191)).alloc (.cells #[.int .i64 0, .slice none 0 0, .int .i64 0] 191)).alloc (.cells #[.int .i64 x.S, .slice none 0 0, .int .i64 f] 191) = W4 at *
    have HSQ : Hid (∀ (p q : Nat) (c : Int), p < BB → q < BB → -2 ≤ c ∧ c ≤ 2 → wrap64 (wrap64 ((p : Int) + wrap64 (q : Int)) + c) = p + sg * q + c) := fun p q c h1 h2 h3 => by
      rw [hsg]
      have := wrap_sum (p := p) (q := q) (.inl rfl) h1 h2 h3
      rwa [Int.one_mul] at this ⊢
    clear hsg hne HXY
    obtain ⟨hbx, hby, hbr, hbo, hbw, hb8, hb9⟩ := HBX
    clear HSZ hwx1 hwy1 hf ht hx0 hy0 HSG HRN
    have HX4 := Lib.hid hbx
    have HY4 := Lib.hid hby
    have HR4 := Lib.hid hbr
    have HBW := Lib.hid hbw
    have HB8 : Hid (w.heap.size + 1 + 1 < B8 ∧ B8 < W4.heap.size) := ⟨hb8, hb9⟩
    have HSTART : Hid (AddInv x y f sg W4 B8 W4 0 0 [] (.slice none 0 0)) := ⟨rfl, fun _ h => absurd h (by simp), by omega, by simp [mag, tot], World.ownsRow_nil _ _ _ _, hbo, Below.refl _ _⟩
    clear hbx hby hbr hbo hbw hb8 hb9
    go_loopw [9, 10] (fun s9 s10 wr => ∃ (k : Nat) (c : Int) (l : List Nat) (v8 : Value), k ≤ n + 1 ∧ s9 = .int .i64 c ∧ s10 = .int .i64 (f + k) ∧ Hid (AddInv x y f sg W4 B8 wr k c l v8)) (fun _ s10 _ => (t + 1 - intOf s10).toNat)
    case atStart => exact ⟨0, 0, [], _, Nat.zero_le _, rfl, by simp, HSTART.out⟩
    case round =>
      obtain ⟨k, c, l, v8, hk, rfl, rfl, HI⟩ := hrel
      by_cases hkt : k ≤ n
      · have hle : f + (k : Int) ≤ t := by have := hn.out; omega
        have HBr : Hid (Below w.heap.size w wr) := HBW.out.trans (HI.out.low.mono (by have := HB8.out; omega))
        have HCB : Hid (∀ W, Below wr.heap.size wr W → (W.cell? ⟨w.heap.size, 0, none⟩ = some (.int .i64 x.S) ∧ W.cell? ⟨w.heap.size, 1, none⟩ = some (.slice ad x.D.length ca) ∧ W.cell? ⟨w.heap.size, 2, none⟩ = some (.int .i64 x.E)) ∧ (W.cell? ⟨w.heap.size + 1, 0, none⟩ = some (.int .i64 y.S) ∧ W.cell? ⟨w.heap.size + 1, 1, none⟩ = some (.slice bd y.D.length cb) ∧ W.cell? ⟨w.heap.size + 1, 2, none⟩ = some (.int .i64 y.E)) ∧ W.cell? ⟨B8, 1, none⟩ = some v8) := fun W hb =>
          ⟨((HX4.out.low HI.out.low (by have := HB8.out; omega)).below hb).c, ((HY4.out.low HI.out.low (by have := HB8.out; omega)).below hb).c, (HI.out.box.below hb).c.2.1⟩
        obtain ⟨p, hp⟩ : ∃ p, Hid (digP x (f + k) = p) := ⟨_, rfl⟩
        obtain ⟨q, hq⟩ : ∃ q, Hid (digP y (f + k) = q) := ⟨_, rfl⟩
        have hpb : p < BB := by rw [← hp.out]; exact digP_lt HWX.out.dig _
        have hqb : q < BB := by rw [← hq.out]; exact digP_lt HWY.out.dig _
        have hrange : -2000 ≤ f + (k : Int) ∧ f + (k : Int) ≤ 2000 := by have := HB.out; have := hn.out; have := HE.out; omega
        have HX : Hid (∀ W, Hid (Below wr.heap.size wr W) → Calls Tryz.prog 287 #[.agg #[.int .i64 x.S, .slice ad x.D.length ca, .int .i64 x.E], .int .i64 (f + k)] W fun r w' => r = .returned (.int .i64 (p : Nat)) ∧ Hid (Below wr.heap.size wr w') ∧ (w'.cell? ⟨w.heap.size, 0, none⟩ = some (.int .i64 x.S) ∧ w'.cell? ⟨w.heap.size, 1, none⟩ = some (.slice ad x.D.length ca) ∧ w'.cell? ⟨w.heap.size, 2, none⟩ = some (.int .i64 x.E)) ∧ (w'.cell? ⟨w.heap.size + 1, 0, none⟩ = some (.int .i64 y.S) ∧ w'.cell? ⟨w.heap.size + 1, 1, none⟩ = some (.slice bd y.D.length cb) ∧ w'.cell? ⟨w.heap.size + 1, 2, none⟩ = some (.int .i64 y.E)) ∧ w'.cell? ⟨B8, 1, none⟩ = some v8) := by
          intro W hb
          refine (HDX.out W (HBr.out.trans (hb.out.mono HBr.out.size)) (f + k) hrange).mono ?_
          rintro r w' ⟨rfl, hb'⟩
          have hbb := hb.out.trans (hb'.mono hb.out.size)
          exact ⟨by rw [hp.out], hbb, HCB.out w' hbb⟩
        have HY : Hid (∀ W, Hid (Below wr.heap.size wr W) → Calls Tryz.prog 287 #[.agg #[.int .i64 y.S, .slice bd y.D.length cb, .int .i64 y.E], .int .i64 (f + k)] W fun r w' => r = .returned (.int .i64 (q : Nat)) ∧ Hid (Below wr.heap.size wr w') ∧ (w'.cell? ⟨w.heap.size, 0, none⟩ = some (.int .i64 x.S) ∧ w'.cell? ⟨w.heap.size, 1, none⟩ = some (.slice ad x.D.length ca) ∧ w'.cell? ⟨w.heap.size, 2, none⟩ = some (.int .i64 x.E)) ∧ (w'.cell? ⟨w.heap.size + 1, 0, none⟩ = some (.int .i64 y.S) ∧ w'.cell? ⟨w.heap.size + 1, 1, none⟩ = some (.slice bd y.D.length cb) ∧ w'.cell? ⟨w.heap.size + 1, 2, none⟩ = some (.int .i64 y.E)) ∧ w'.cell? ⟨B8, 1, none⟩ = some v8) := by
          intro W hb
          refine (HDY.out W (HBr.out.trans (hb.out.mono HBr.out.size)) (f + k) hrange).mono ?_
          rintro r w' ⟨rfl, hb'⟩
          have hbb := hb.out.trans (hb'.mono hb.out.size)
          exact ⟨by rw [hq.out], hbb, HCB.out w' hbb⟩
        have n0 := HCB.out wr.drew (Below.refl _ _).drew
        have B0 : Hid (Below wr.heap.size wr wr.drew) := (Below.refl _ _).drew
        obtain ⟨v0, hv0⟩ : ∃ v0 : Int, Hid (p + sg * q + c = v0) := ⟨_, rfl⟩
        have hws := HSQ.out p q c hpb hqb HI.out.cr
        rw [hv0.out] at hws
        have HV0 : Hid (-2 * BB ≤ v0 ∧ v0 ≤ 2 * BB) := by
          have h1 := HI.out.cr
          have h2 := hv0.out
          have h3 := hpb
          have h4 := hqb
          rw [BB_eq] at h3 h4 ⊢
          unfold Hid
          rcases HSV.out with h | h
          · rw [h] at h2; omega
          · rw [h] at h2; omega
        clear hrange hpb hqb
        go_wp2
        rename (∀ (a : Act) (w : World), Code.wp _ _ _ a w → _) => hcA
        have HCA := Lib.hid (fun (_ : Unit) => hcA)
        clear hcA
        rename (∀ (a : Act) (w : World), Code.wp _ _ _ a w → _) => hcB
        have HCB2 := Lib.hid (fun (_ : Unit) => hcB)
        clear hcB
        repeat (rename (∀ (a : Act) (w : World), Code.wp _ _ _ a w → _) => ha; clear ha)
        go_region_held3 (fun w' => (w'.cell? ⟨w.heap.size, 0, none⟩ = some (.int .i64 x.S) ∧ w'.cell? ⟨w.heap.size, 1, none⟩ = some (.slice ad x.D.length ca) ∧ w'.cell? ⟨w.heap.size, 2, none⟩ = some (.int .i64 x.E)) ∧ (w'.cell? ⟨w.heap.size + 1, 0, none⟩ = some (.int .i64 y.S) ∧ w'.cell? ⟨w.heap.size + 1, 1, none⟩ = some (.slice bd y.D.length cb) ∧ w'.cell? ⟨w.heap.size + 1, 2, none⟩ = some (.int .i64 y.E)) ∧ w'.cell? ⟨B8, 1, none⟩ = some v8) (first | assumption | exact n0)
          (first
            | (go_at_call 287; with_reducible refine (HX.out _ B0).mono ?_; rintro r w3 ⟨rfl, B3, n3⟩)
            | (go_at_call 287; with_reducible refine (HY.out _ B3).mono ?_; rintro r w4 ⟨rfl, BF, n4⟩)
            | (go_at_call 287; with_reducible refine (HY.out _ B0).mono ?_; rintro r w3 ⟨rfl, B3, n3⟩)
            | (go_at_call 287; with_reducible refine (HX.out _ B3).mono ?_; rintro r w4 ⟨rfl, BF, n4⟩))
        all_goals
          have hcA := HCA.out ()
          have hcB := HCB2.out ()
          simp only [IntWalk.i64_left]
          rw [hws]
          have HIf := Lib.hid (HI.out.below BF.out)
          clear HX HY n0 B0 n3 n4 B3 HCB HCA HCB2 BF HI HBr hws
          go_wp2
          go_loop [9, 11] (fun s9 s11 => ∃ v c' : Int, s9 = .int .i64 c' ∧ s11 = .int .i64 v ∧ v + c' * 16777216 = v0 ∧ -2 ≤ c' ∧ c' ≤ 0 ∧ v ≤ 33554432 ∧ -33554432 ≤ v) (fun _ s11 => (-(intOf s11)).toNat)
          case atStart => exact ⟨v0, 0, rfl, rfl, by omega, by omega, by omega, by have := HV0.out; rw [BB_eq] at this; omega, by have := HV0.out; rw [BB_eq] at this; omega⟩
          case round =>
            obtain ⟨v, c', rfl, rfl, hvc, hc1, hc2, hv1, hv2⟩ := hrel
            by_cases hv : v < 0
            · have hwv : wrap64 (v + 16777216) = v + 16777216 := by unfold wrap64; omega
              have hwc : wrap64 (c' - 1) = c' - 1 := by unfold wrap64; omega
              go_wp2
              go_round
              case rel => exact ⟨v + 16777216, c' - 1, rfl, rfl, by omega, by have := HV0.out; rw [BB_eq] at this; omega, by omega, by omega, by omega⟩
              case measure => simp only [intOf]; omega
            · go_wp2
              go_loop [9, 11] (fun s9 s11 => ∃ v c' : Int, s9 = .int .i64 c' ∧ s11 = .int .i64 v ∧ v + c' * 16777216 = v0 ∧ -2 ≤ c' ∧ c' ≤ 2 ∧ 0 ≤ v ∧ v ≤ 33554432) (fun _ s11 => (intOf s11).toNat)
              case atStart => exact ⟨v, c', rfl, rfl, hvc, hc1, by omega, by omega, hv1⟩
              case round =>
                clear hvc hc1 hc2 hv1 hv2 hv
                obtain ⟨v, c', rfl, rfl, hvc, hc1, hc2, hv1, hv2⟩ := hrel
                by_cases hv : 16777216 ≤ v
                · have hwv : wrap64 (v - 16777216) = v - 16777216 := by unfold wrap64; omega
                  have hwc : wrap64 (c' + 1) = c' + 1 := by unfold wrap64; omega
                  go_wp2
                  go_round
                  case rel => exact ⟨v - 16777216, c' + 1, rfl, rfl, by omega, by omega, by have := HV0.out; rw [BB_eq] at this; omega, by omega, by omega⟩
                  case measure => simp only [intOf]; omega
                · obtain ⟨d, rfl⟩ : ∃ d : Nat, v = d := ⟨v.toNat, by omega⟩
                  have HVD : Hid ((d : Int) + c' * 16777216 = digP x (f + k) + sg * digP y (f + k) + c) := by unfold Hid; rw [hp.out, hq.out, hvc, hv0.out]
                  have HDB : Hid (d < BB) := by unfold Hid; rw [BB_eq]; omega
                  have HCR : Hid (-2 ≤ c' ∧ c' ≤ 2) := ⟨hc1, hc2⟩
                  have b1 := HIf.out.box.c.2.1
                  have b1a := fun o => (HIf.out.box.al o).c.2.1
                  have hwk : wrap64 (f + (k : Int) + 1) = f + ((k + 1 : Nat) : Int) := by have := HB.out; have := hn.out; have := HE.out; unfold wrap64; omega
                  clear hvc hc1 hc2 hv1 hv2
                  go_wp2_with (at_builtin; refine wpList_append_own _ rfl _ _ 189 rfl (B8 + 1) 2 i0 (.int .i64 0) 1 8 Tryz.underlying189 hi hz0 hz1 hz2 rfl (by decide) v8 l.length (dC l) rfl (HIf.out.own.alloc _) ⟨w4.heap.size, 0, none⟩ 1 1 [.int .i64 (d : Nat)] rfl rfl (cells_new w4 [.int .i64 (d : Nat)] 2) (fun u hu => by simp at hu; subst hu; rfl) (by have := HIf.out.len; have := HB.out; have := hn.out; have := HE.out; unfold maxLen; omega) (by have := HIf.out.len; have := HB.out; have := hn.out; have := HE.out; omega) (by have := HIf.out.box.lt; simp; omega) ?_)
                  intro v' w2 hown hgrow _
                  obtain ⟨g9, cap9, rfl⟩ : ∃ g9 cap9, v' = .slice (some ⟨g9, 0, none⟩) (l.length + 1) cap9 := by
                    rcases hown.2 with ⟨_, h0⟩ | ⟨g9, c9, cur, rfl, _⟩
                    · omega
                    · exact ⟨g9, c9, rfl⟩
                  have HPU := Lib.hid (HIf.out.push HDB.out HCR.out HVD.out hown hgrow)
                  have c1 := HPU.out.2.c.2.1
                  have cf := HPU.out.2.fz 1
                  clear hown hgrow b1 b1a
                  go_wp2
                  go_roundw
                  case rel => exact ⟨k + 1, c', l ++ [d], _, by omega, rfl, by rw [hwk], HPU.out.1⟩
                  case measure => simp only [intOf]; omega
      · have hkn : k = n + 1 := by omega
        subst hkn
        have hle : ¬f + ((n + 1 : Nat) : Int) ≤ t := by have := hn.out; omega
        have HBr : Hid (Below w.heap.size w wr) := HBW.out.trans (HI.out.low.mono (by have := HB8.out; omega))
        have HVAL : Hid (nv ⟨x.S, l, f⟩ = nv x + nv y) := nadd_val HB.out.1 HB.out.2.1 HB.out.2.2.1 HB.out.2.2.2.1 hn.out (by have := HB.out; have := HE.out; omega) HWX.out HWY.out HSGX.out HI.out.len HI.out.dig HI.out.cr HI.out.sum
        obtain ⟨b0, b1, b2⟩ := HI.out.box.c
        have HRW := Lib.hid ((HR4.out.low HI.out.low (by have := HB8.out; omega)))
        obtain ⟨ad8, cap8, rfl, hcap8, hda⟩ := own_digits HI.out.own
        have HT : Hid (Calls Tryz.prog 247 #[.agg #[.int .i64 x.S, .slice ad8 l.length cap8, .int .i64 f]] wr fun r w' => ∃ (z : NumP) (az : Option Addr) (cz : Nat), r = .returned (.agg #[.int .i64 z.S, .slice az z.D.length cz, .int .i64 z.E]) ∧ Hid ((DAt w' az z.D ∧ z.D.length ≤ cz) ∧ Wf z ∧ nv z = nv x + nv y ∧ Rng (e + 1) z ∧ Below wr.heap.size wr w')) := by
          have hlen := HI.out.len
          refine (trim_walk (x := ⟨x.S, l, f⟩) (e := e + 1) hda hcap8 HE.out ⟨by have := HB.out; show -((e + 1 : Nat) : Int) ≤ f; omega, by have := HB.out; have := hn.out; show f + (l.length : Int) ≤ ((e + 1 : Nat) : Int); omega⟩ HI.out.dig HXS.out).mono ?_
          rintro r w' ⟨z, v, rfl, h1, h2, h3, h4, h5⟩
          obtain ⟨az, cz, rfl, h6, h7⟩ := h1.ex
          exact ⟨z, az, cz, rfl, ⟨h6, h7⟩, h2, h3.trans HVAL.out, h4, h5⟩
        clear hda hcap8
        go_wp2_with (go_at_call 247; refine HT.out.mono ?_; rintro r w5 ⟨z, az, cz, rfl, H5⟩; have R5 := Lib.hid (HRW.out.below H5.out.2.2.2.2); obtain ⟨r0, r1, r2⟩ := R5.out.c; have g0 := R5.out.fz 0; have g1 := R5.out.fz 1; have g2 := R5.out.fz 2)
        obtain ⟨f0, f1, f2⟩ := (R5.out.put (.int .i64 z.S) (.slice az z.D.length cz) (.int .i64 z.E)).c
        refine bodyPost_ret (by simp [results, Tryz.results248, go_sem, f0, f1, f2]; try rfl) rfl ?_
        exact ⟨z, _, rfl, ⟨az, cz, rfl, H5.out.1.1.put H5.out.2.1.lead R5.out _ _ _, H5.out.1.2⟩, H5.out.2.1, H5.out.2.2.1, H5.out.2.2.2.1, put_below (HBr.out.trans (H5.out.2.2.2.2.mono HBr.out.size)) (by omega) _ _ _⟩

  · have hRn := HRN.out hxy
    have hne : (x.S != y.S) = true := by simpa using hxy
    go_enter Tryz.func248, Tryz.ntmps248
    go_wp2_with (go_at_call 286; refine (HSZ.out _ ((((Below.refl _ w).alloc (Nat.le_refl _) _).alloc (by simp) _).alloc (by simp; omega) _)).mono ?_; rintro r w1 ⟨rfl, hb1⟩; have HBX := boxes4 (.int .i64 x.S) (.slice ad x.D.length ca) (.int .i64 x.E) (.int .i64 y.S) (.slice bd y.D.length cb) (.int .i64 y.E) (.int .i64 0) (.slice none 0 0) (.int .i64 0) (.int .i64 x.S) (.slice none 0 0) (.int .i64 f) 191 hb1; obtain ⟨X3, Y3, _⟩ := boxes3 (.int .i64 x.S) (.slice ad x.D.length ca) (.int .i64 x.E) (.int .i64 y.S) (.slice bd y.D.length cb) (.int .i64 y.E) (.int .i64 0) (.slice none 0 0) (.int .i64 0) 191 hb1; obtain ⟨x0, x1, x2⟩ := X3.c; obtain ⟨y0, y1, y2⟩ := Y3.c; clear X3 Y3 hb1)
    clear x0 x1 x2 y0 y1 y2
    obtain ⟨sg, hsg⟩ : ∃ sg : Int, sg = -1 := ⟨_, rfl⟩
    have HSGX := Lib.hid (HSG.out sg (.inr ⟨hsg, hxy⟩))
    have HSV : Hid (sg = 1 ∨ sg = -1) := .inr hsg
    generalize w1.alloc (.cells #[.int .i64 x.S, .slice none 0 0, .int .i64 f] 191) = W4 at *
    generalize w1.heap.size = B8 at *
    have HSQ : Hid (∀ (p q : Nat) (c : Int), p < BB → q < BB → -2 ≤ c ∧ c ≤ 2 → wrap64 (wrap64 ((p : Int) + wrap64 (-(q : Int))) + c) = p + sg * q + c) := fun p q c h1 h2 h3 => by
      rw [hsg]
      have := wrap_sum (p := p) (q := q) (.inr rfl) h1 h2 h3
      rwa [Int.neg_one_mul] at this ⊢
    clear hsg hxy hRn hne
    obtain ⟨hbx, hby, hbr, hbo, hbw, hb8, hb9⟩ := HBX
    clear HSZ hwx1 hwy1 hf ht hx0 hy0 HSG HRN
    have HX4 := Lib.hid hbx
    have HY4 := Lib.hid hby
    have HR4 := Lib.hid hbr
    have HBW := Lib.hid hbw
    have HB8 : Hid (w.heap.size + 1 + 1 < B8 ∧ B8 < W4.heap.size) := ⟨hb8, hb9⟩
    have HSTART : Hid (AddInv x y f sg W4 B8 W4 0 0 [] (.slice none 0 0)) := ⟨rfl, fun _ h => absurd h (by simp), by omega, by simp [mag, tot], World.ownsRow_nil _ _ _ _, hbo, Below.refl _ _⟩
    clear hbx hby hbr hbo hbw hb8 hb9
    go_loopw [9, 10] (fun s9 s10 wr => ∃ (k : Nat) (c : Int) (l : List Nat) (v8 : Value), k ≤ n + 1 ∧ s9 = .int .i64 c ∧ s10 = .int .i64 (f + k) ∧ Hid (AddInv x y f sg W4 B8 wr k c l v8)) (fun _ s10 _ => (t + 1 - intOf s10).toNat)
    case atStart => exact ⟨0, 0, [], _, Nat.zero_le _, rfl, by simp, HSTART.out⟩
    case round =>
      obtain ⟨k, c, l, v8, hk, rfl, rfl, HI⟩ := hrel
      by_cases hkt : k ≤ n
      · have hle : f + (k : Int) ≤ t := by have := hn.out; omega
        have HBr : Hid (Below w.heap.size w wr) := HBW.out.trans (HI.out.low.mono (by have := HB8.out; omega))
        have HCB : Hid (∀ W, Below wr.heap.size wr W → (W.cell? ⟨w.heap.size, 0, none⟩ = some (.int .i64 x.S) ∧ W.cell? ⟨w.heap.size, 1, none⟩ = some (.slice ad x.D.length ca) ∧ W.cell? ⟨w.heap.size, 2, none⟩ = some (.int .i64 x.E)) ∧ (W.cell? ⟨w.heap.size + 1, 0, none⟩ = some (.int .i64 y.S) ∧ W.cell? ⟨w.heap.size + 1, 1, none⟩ = some (.slice bd y.D.length cb) ∧ W.cell? ⟨w.heap.size + 1, 2, none⟩ = some (.int .i64 y.E)) ∧ W.cell? ⟨B8, 1, none⟩ = some v8) := fun W hb =>
          ⟨((HX4.out.low HI.out.low (by have := HB8.out; omega)).below hb).c, ((HY4.out.low HI.out.low (by have := HB8.out; omega)).below hb).c, (HI.out.box.below hb).c.2.1⟩
        obtain ⟨p, hp⟩ : ∃ p, Hid (digP x (f + k) = p) := ⟨_, rfl⟩
        obtain ⟨q, hq⟩ : ∃ q, Hid (digP y (f + k) = q) := ⟨_, rfl⟩
        have hpb : p < BB := by rw [← hp.out]; exact digP_lt HWX.out.dig _
        have hqb : q < BB := by rw [← hq.out]; exact digP_lt HWY.out.dig _
        have hrange : -2000 ≤ f + (k : Int) ∧ f + (k : Int) ≤ 2000 := by have := HB.out; have := hn.out; have := HE.out; omega
        have HX : Hid (∀ W, Hid (Below wr.heap.size wr W) → Calls Tryz.prog 287 #[.agg #[.int .i64 x.S, .slice ad x.D.length ca, .int .i64 x.E], .int .i64 (f + k)] W fun r w' => r = .returned (.int .i64 (p : Nat)) ∧ Hid (Below wr.heap.size wr w') ∧ (w'.cell? ⟨w.heap.size, 0, none⟩ = some (.int .i64 x.S) ∧ w'.cell? ⟨w.heap.size, 1, none⟩ = some (.slice ad x.D.length ca) ∧ w'.cell? ⟨w.heap.size, 2, none⟩ = some (.int .i64 x.E)) ∧ (w'.cell? ⟨w.heap.size + 1, 0, none⟩ = some (.int .i64 y.S) ∧ w'.cell? ⟨w.heap.size + 1, 1, none⟩ = some (.slice bd y.D.length cb) ∧ w'.cell? ⟨w.heap.size + 1, 2, none⟩ = some (.int .i64 y.E)) ∧ w'.cell? ⟨B8, 1, none⟩ = some v8) := by
          intro W hb
          refine (HDX.out W (HBr.out.trans (hb.out.mono HBr.out.size)) (f + k) hrange).mono ?_
          rintro r w' ⟨rfl, hb'⟩
          have hbb := hb.out.trans (hb'.mono hb.out.size)
          exact ⟨by rw [hp.out], hbb, HCB.out w' hbb⟩
        have HY : Hid (∀ W, Hid (Below wr.heap.size wr W) → Calls Tryz.prog 287 #[.agg #[.int .i64 y.S, .slice bd y.D.length cb, .int .i64 y.E], .int .i64 (f + k)] W fun r w' => r = .returned (.int .i64 (q : Nat)) ∧ Hid (Below wr.heap.size wr w') ∧ (w'.cell? ⟨w.heap.size, 0, none⟩ = some (.int .i64 x.S) ∧ w'.cell? ⟨w.heap.size, 1, none⟩ = some (.slice ad x.D.length ca) ∧ w'.cell? ⟨w.heap.size, 2, none⟩ = some (.int .i64 x.E)) ∧ (w'.cell? ⟨w.heap.size + 1, 0, none⟩ = some (.int .i64 y.S) ∧ w'.cell? ⟨w.heap.size + 1, 1, none⟩ = some (.slice bd y.D.length cb) ∧ w'.cell? ⟨w.heap.size + 1, 2, none⟩ = some (.int .i64 y.E)) ∧ w'.cell? ⟨B8, 1, none⟩ = some v8) := by
          intro W hb
          refine (HDY.out W (HBr.out.trans (hb.out.mono HBr.out.size)) (f + k) hrange).mono ?_
          rintro r w' ⟨rfl, hb'⟩
          have hbb := hb.out.trans (hb'.mono hb.out.size)
          exact ⟨by rw [hq.out], hbb, HCB.out w' hbb⟩
        have n0 := HCB.out wr.drew (Below.refl _ _).drew
        have B0 : Hid (Below wr.heap.size wr wr.drew) := (Below.refl _ _).drew
        obtain ⟨v0, hv0⟩ : ∃ v0 : Int, Hid (p + sg * q + c = v0) := ⟨_, rfl⟩
        have hws := HSQ.out p q c hpb hqb HI.out.cr
        rw [hv0.out] at hws
        have HV0 : Hid (-2 * BB ≤ v0 ∧ v0 ≤ 2 * BB) := by
          have h1 := HI.out.cr
          have h2 := hv0.out
          have h3 := hpb
          have h4 := hqb
          rw [BB_eq] at h3 h4 ⊢
          unfold Hid
          rcases HSV.out with h | h
          · rw [h] at h2; omega
          · rw [h] at h2; omega
        clear hrange hpb hqb
        go_wp2
        rename (∀ (a : Act) (w : World), Code.wp _ _ _ a w → _) => hcA
        have HCA := Lib.hid (fun (_ : Unit) => hcA)
        clear hcA
        rename (∀ (a : Act) (w : World), Code.wp _ _ _ a w → _) => hcB
        have HCB2 := Lib.hid (fun (_ : Unit) => hcB)
        clear hcB
        repeat (rename (∀ (a : Act) (w : World), Code.wp _ _ _ a w → _) => ha; clear ha)
        go_region_held3 (fun w' => (w'.cell? ⟨w.heap.size, 0, none⟩ = some (.int .i64 x.S) ∧ w'.cell? ⟨w.heap.size, 1, none⟩ = some (.slice ad x.D.length ca) ∧ w'.cell? ⟨w.heap.size, 2, none⟩ = some (.int .i64 x.E)) ∧ (w'.cell? ⟨w.heap.size + 1, 0, none⟩ = some (.int .i64 y.S) ∧ w'.cell? ⟨w.heap.size + 1, 1, none⟩ = some (.slice bd y.D.length cb) ∧ w'.cell? ⟨w.heap.size + 1, 2, none⟩ = some (.int .i64 y.E)) ∧ w'.cell? ⟨B8, 1, none⟩ = some v8) (first | assumption | exact n0)
          (first
            | (go_at_call 287; with_reducible refine (HX.out _ B0).mono ?_; rintro r w3 ⟨rfl, B3, n3⟩)
            | (go_at_call 287; with_reducible refine (HY.out _ B3).mono ?_; rintro r w4 ⟨rfl, BF, n4⟩)
            | (go_at_call 287; with_reducible refine (HY.out _ B0).mono ?_; rintro r w3 ⟨rfl, B3, n3⟩)
            | (go_at_call 287; with_reducible refine (HX.out _ B3).mono ?_; rintro r w4 ⟨rfl, BF, n4⟩))
        all_goals
          have hcA := HCA.out ()
          have hcB := HCB2.out ()
          simp only [IntWalk.i64_left]
          rw [hws]
          have HIf := Lib.hid (HI.out.below BF.out)
          clear HX HY n0 B0 n3 n4 B3 HCB HCA HCB2 BF HI HBr hws
          go_wp2
          go_loop [9, 11] (fun s9 s11 => ∃ v c' : Int, s9 = .int .i64 c' ∧ s11 = .int .i64 v ∧ v + c' * 16777216 = v0 ∧ -2 ≤ c' ∧ c' ≤ 0 ∧ v ≤ 33554432 ∧ -33554432 ≤ v) (fun _ s11 => (-(intOf s11)).toNat)
          case atStart => exact ⟨v0, 0, rfl, rfl, by omega, by omega, by omega, by have := HV0.out; rw [BB_eq] at this; omega, by have := HV0.out; rw [BB_eq] at this; omega⟩
          case round =>
            obtain ⟨v, c', rfl, rfl, hvc, hc1, hc2, hv1, hv2⟩ := hrel
            by_cases hv : v < 0
            · have hwv : wrap64 (v + 16777216) = v + 16777216 := by unfold wrap64; omega
              have hwc : wrap64 (c' - 1) = c' - 1 := by unfold wrap64; omega
              go_wp2
              go_round
              case rel => exact ⟨v + 16777216, c' - 1, rfl, rfl, by omega, by have := HV0.out; rw [BB_eq] at this; omega, by omega, by omega, by omega⟩
              case measure => simp only [intOf]; omega
            · go_wp2
              go_loop [9, 11] (fun s9 s11 => ∃ v c' : Int, s9 = .int .i64 c' ∧ s11 = .int .i64 v ∧ v + c' * 16777216 = v0 ∧ -2 ≤ c' ∧ c' ≤ 2 ∧ 0 ≤ v ∧ v ≤ 33554432) (fun _ s11 => (intOf s11).toNat)
              case atStart => exact ⟨v, c', rfl, rfl, hvc, hc1, by omega, by omega, hv1⟩
              case round =>
                clear hvc hc1 hc2 hv1 hv2 hv
                obtain ⟨v, c', rfl, rfl, hvc, hc1, hc2, hv1, hv2⟩ := hrel
                by_cases hv : 16777216 ≤ v
                · have hwv : wrap64 (v - 16777216) = v - 16777216 := by unfold wrap64; omega
                  have hwc : wrap64 (c' + 1) = c' + 1 := by unfold wrap64; omega
                  go_wp2
                  go_round
                  case rel => exact ⟨v - 16777216, c' + 1, rfl, rfl, by omega, by omega, by have := HV0.out; rw [BB_eq] at this; omega, by omega, by omega⟩
                  case measure => simp only [intOf]; omega
                · obtain ⟨d, rfl⟩ : ∃ d : Nat, v = d := ⟨v.toNat, by omega⟩
                  have HVD : Hid ((d : Int) + c' * 16777216 = digP x (f + k) + sg * digP y (f + k) + c) := by unfold Hid; rw [hp.out, hq.out, hvc, hv0.out]
                  have HDB : Hid (d < BB) := by unfold Hid; rw [BB_eq]; omega
                  have HCR : Hid (-2 ≤ c' ∧ c' ≤ 2) := ⟨hc1, hc2⟩
                  have b1 := HIf.out.box.c.2.1
                  have b1a := fun o => (HIf.out.box.al o).c.2.1
                  have hwk : wrap64 (f + (k : Int) + 1) = f + ((k + 1 : Nat) : Int) := by have := HB.out; have := hn.out; have := HE.out; unfold wrap64; omega
                  clear hvc hc1 hc2 hv1 hv2
                  go_wp2_with (at_builtin; refine wpList_append_own _ rfl _ _ 189 rfl (B8 + 1) 2 i0 (.int .i64 0) 1 8 Tryz.underlying189 hi hz0 hz1 hz2 rfl (by decide) v8 l.length (dC l) rfl (HIf.out.own.alloc _) ⟨w4.heap.size, 0, none⟩ 1 1 [.int .i64 (d : Nat)] rfl rfl (cells_new w4 [.int .i64 (d : Nat)] 2) (fun u hu => by simp at hu; subst hu; rfl) (by have := HIf.out.len; have := HB.out; have := hn.out; have := HE.out; unfold maxLen; omega) (by have := HIf.out.len; have := HB.out; have := hn.out; have := HE.out; omega) (by have := HIf.out.box.lt; simp; omega) ?_)
                  intro v' w2 hown hgrow _
                  obtain ⟨g9, cap9, rfl⟩ : ∃ g9 cap9, v' = .slice (some ⟨g9, 0, none⟩) (l.length + 1) cap9 := by
                    rcases hown.2 with ⟨_, h0⟩ | ⟨g9, c9, cur, rfl, _⟩
                    · omega
                    · exact ⟨g9, c9, rfl⟩
                  have HPU := Lib.hid (HIf.out.push HDB.out HCR.out HVD.out hown hgrow)
                  have c1 := HPU.out.2.c.2.1
                  have cf := HPU.out.2.fz 1
                  clear hown hgrow b1 b1a
                  go_wp2
                  go_roundw
                  case rel => exact ⟨k + 1, c', l ++ [d], _, by omega, rfl, by rw [hwk], HPU.out.1⟩
                  case measure => simp only [intOf]; omega
      · have hkn : k = n + 1 := by omega
        subst hkn
        have hle : ¬f + ((n + 1 : Nat) : Int) ≤ t := by have := hn.out; omega
        have HBr : Hid (Below w.heap.size w wr) := HBW.out.trans (HI.out.low.mono (by have := HB8.out; omega))
        have HVAL : Hid (nv ⟨x.S, l, f⟩ = nv x + nv y) := nadd_val HB.out.1 HB.out.2.1 HB.out.2.2.1 HB.out.2.2.2.1 hn.out (by have := HB.out; have := HE.out; omega) HWX.out HWY.out HSGX.out HI.out.len HI.out.dig HI.out.cr HI.out.sum
        obtain ⟨b0, b1, b2⟩ := HI.out.box.c
        have HRW := Lib.hid ((HR4.out.low HI.out.low (by have := HB8.out; omega)))
        obtain ⟨ad8, cap8, rfl, hcap8, hda⟩ := own_digits HI.out.own
        have HT : Hid (Calls Tryz.prog 247 #[.agg #[.int .i64 x.S, .slice ad8 l.length cap8, .int .i64 f]] wr fun r w' => ∃ (z : NumP) (az : Option Addr) (cz : Nat), r = .returned (.agg #[.int .i64 z.S, .slice az z.D.length cz, .int .i64 z.E]) ∧ Hid ((DAt w' az z.D ∧ z.D.length ≤ cz) ∧ Wf z ∧ nv z = nv x + nv y ∧ Rng (e + 1) z ∧ Below wr.heap.size wr w')) := by
          have hlen := HI.out.len
          refine (trim_walk (x := ⟨x.S, l, f⟩) (e := e + 1) hda hcap8 HE.out ⟨by have := HB.out; show -((e + 1 : Nat) : Int) ≤ f; omega, by have := HB.out; have := hn.out; show f + (l.length : Int) ≤ ((e + 1 : Nat) : Int); omega⟩ HI.out.dig HXS.out).mono ?_
          rintro r w' ⟨z, v, rfl, h1, h2, h3, h4, h5⟩
          obtain ⟨az, cz, rfl, h6, h7⟩ := h1.ex
          exact ⟨z, az, cz, rfl, ⟨h6, h7⟩, h2, h3.trans HVAL.out, h4, h5⟩
        clear hda hcap8
        go_wp2_with (go_at_call 247; refine HT.out.mono ?_; rintro r w5 ⟨z, az, cz, rfl, H5⟩; have R5 := Lib.hid (HRW.out.below H5.out.2.2.2.2); obtain ⟨r0, r1, r2⟩ := R5.out.c; have g0 := R5.out.fz 0; have g1 := R5.out.fz 1; have g2 := R5.out.fz 2)
        obtain ⟨f0, f1, f2⟩ := (R5.out.put (.int .i64 z.S) (.slice az z.D.length cz) (.int .i64 z.E)).c
        refine bodyPost_ret (by simp [results, Tryz.results248, go_sem, f0, f1, f2]; try rfl) rfl ?_
        exact ⟨z, _, rfl, ⟨az, cz, rfl, H5.out.1.1.put H5.out.2.1.lead R5.out _ _ _, H5.out.1.2⟩, H5.out.2.1, H5.out.2.2.1, H5.out.2.2.2.1, put_below (HBr.out.trans (H5.out.2.2.2.2.mono HBr.out.size)) (by omega) _ _ _⟩


end Go.Proofs.YtdoaniccefdkaaaGreatDoor
