/- trivetlaw16.WalkFinds: it returns true, at every start; each argument reads as it read. -/
import Derived.Test.YtdoaniccefdkaaaGreatDoorRows
import Derived.Test.YtdoaniccefdkaaaGreatDoorTie
import Derived.Test.YtdoaniccefdkaaaGreatDoorCards
import Derived.Test.YtdoaniccefdkaaaGreatDoorQUL
import Derived.Test.YtdoaniccefdkaaaGreatDoorQRA
import Derived.Stop.Joined
import Derived.SevenTiedAt
set_option linter.all false
namespace Go.Proofs.YtdoaniccefdkaaaGreatDoor
open Go.ChangeShapes Go.WideShapes Go.ChangeAt Go.RowKit Go.Deep

theorem walkFinds_walk (l : List Pt) (ad : Option Addr) (cap : Nat) (T : List Tri3) (at_ : Option Addr) (capt : Nat) (p : Pt) (s : Nat) (h64 : ∀ p, p ∈ l → pt64 p) (hp : pt64 p) (hs : s < 18446744073709551616) (w : World) (hc : PCells w ad l) (hct : TCells w at_ T) :
    Calls Tryz.prog 9 #[.slice ad l.length cap, .slice at_ T.length capt, .agg #[.float .f64 p.1, .float .f64 p.2], .int .u64 s] w fun r w' => r = .returned (.bool true) ∧ Below w.heap.size w w' := by
  by_cases hb : 40 < l.length ∨ 100 < T.length
  · exact finds_big l ad cap T at_ capt p _ hb w
  · by_cases hk : allCode l = 0
    · cases hpk : ptOK p
      · exact finds_bad l ad cap T at_ capt p s (by omega) (by omega) h64 hk hp hpk w hc hct
      · exact finds_ok l ad cap T at_ capt p s hs (by omega) (by omega) h64 hk hp hpk w hc hct
    · exact finds_nil l ad cap T at_ capt p _ (by omega) (by omega) h64 hk w hc

theorem ownK : ownKnob Tryz.prog.godebug = none := by kernel_rfl

/-- The door's own heap meets the condition. -/
theorem door_met (os : Os) (args : Array Value) : laidMetH Tryz.prog [("math/bits.deBruijn32tab", Rows.laid_math_bits_deBruijn32tab)] ((World.doorLaid Tryz.prog 400 os).forCall (fun _ _ => 0) ⟨#[], args, []⟩).memory :=
  laidMetH_of_parts3 (fuel := 8) (laidMet_of_run' 8 (by kernel_rfl) (by kernel_rfl)) (by kernel_rfl) (by kernel_rfl)

set_option maxHeartbeats 1000000 in
set_option maxRecDepth 100000 in
theorem walkFinds_lifted (os : Os) (started : os.Started) (H : Type) (enc : TypeId × Value → H) :
    ReturnsInHanded {} Tryz.checked os 9 .any (fun w args => (Rows.walkFindsSpec.pre enc Tryz.prog Tryz.f9 [] false w args ∧ laidMetH Tryz.prog [("math/bits.deBruijn32tab", Rows.laid_math_bits_deBruijn32tab)] w) ∧ sizedMet enc Tryz.prog Tryz.f9 (OpenSpec.ofChange Rows.walkFindsSpec) false w args)
      (Rows.walkFindsSpec.post enc Tryz.prog Tryz.f9 false true false false) := by
  refine returnsInHanded_of_change_and (C := Tryz.checked) (X := fun w _ => laidMetH Tryz.prog [("math/bits.deBruijn32tab", Rows.laid_math_bits_deBruijn32tab)] w) (fun _ _ _ hh h => h.of_heap hh) ownK started (by kernel_rfl) Tryz.func9
    (ChangeSpec.witness_shaped (enc := enc) (C := Tryz.checked) (os := os) (X := fun w _ => laidMetH Tryz.prog [("math/bits.deBruijn32tab", Rows.laid_math_bits_deBruijn32tab)] w) false (World.doorLaid Tryz.prog 400 os) #[.slice none 0 0, .slice none 0 0, .agg #[.float .f64 0, .float .f64 0], .int .u64 0] 8 rfl (World.shaped_of_RefB (by kernel_rfl) (by kernel_rfl)) (by kernel_rfl) (by kernel_rfl) (by kernel_rfl) (door_met os _)) ?_
  intro W base args ds gs before hval0 hW _ _ hL _
  have hval : ∀ (j : Nat) t v, Tryz.f9.params[j]? = some t → args[j]? = some v → Value.okWide Tryz.prog W .any base t v := hval0
  have hW' := hW
  obtain ⟨p, q, hA0, hV, rfl, hfz, hnd⟩ := hW
  have hA : DataW.TrodAll enc Tryz.prog W 0 (fun _ => true) true Tryz.f9.params.toList args.toList ds p := hA0
  rw [Tryz.params9] at hA hval
  obtain ⟨v0, v1, v2, v3, d0, d1, d2, d3, p0, p1, p2, p3, rfl, rfl, rfl, h0, h1, h2, h3⟩ := trodAll_four hA
  obtain ⟨rfl, rfl⟩ := trodVars_none hV
  simp only [List.append_nil] at hW'
  have hlt : ∀ y ∈ p0 ++ (p1 ++ (p2 ++ (p3))), y.block < W.heap.size := fun y hy => by simpa using hW'.lt y (by simpa using hy)
  have hlaid : laidOutB Tryz.prog = true := laidOut
  have harg0 : ∀ W' : World, Below W.heap.size W W' → DataW.Trod enc Tryz.prog W' 0 (fun b => decide (b < W.heap.size)) true 22 v0 d0 p0 :=
    fun W' hn => Below.trod hlaid (by kernel_rfl) (of_decide_eq_true (by kernel_rfl)) h0 hn (fun y hy => hlt y (by simp [hy]))
  have harg1 : ∀ W' : World, Below W.heap.size W W' → DataW.Trod enc Tryz.prog W' 0 (fun b => decide (b < W.heap.size)) true 23 v1 d1 p1 :=
    fun W' hn => Below.trod hlaid (by kernel_rfl) (of_decide_eq_true (by kernel_rfl)) h1 hn (fun y hy => hlt y (by simp [hy]))
  have harg2 : ∀ W' : World, Below W.heap.size W W' → DataW.Trod enc Tryz.prog W' 0 (fun b => decide (b < W.heap.size)) true 52 v2 d2 p2 :=
    fun W' hn => Below.trod hlaid (by kernel_rfl) (of_decide_eq_true (by kernel_rfl)) h2 hn (fun y hy => hlt y (by simp [hy]))
  have harg3 : ∀ W' : World, Below W.heap.size W W' → DataW.Trod enc Tryz.prog W' 0 (fun b => decide (b < W.heap.size)) true 83 v3 d3 p3 :=
    fun W' hn => Below.trod hlaid (by kernel_rfl) (of_decide_eq_true (by kernel_rfl)) h3 hn (fun y hy => hlt y (by simp [hy]))
  obtain ⟨a0, n0, c0, rfl⟩ := okWide_slice Tryz.underlying22 (hval 0 _ v0 rfl rfl)
  obtain ⟨fu0, hf0⟩ := h0
  obtain ⟨ad, l, cap, e0, hc, h64⟩ := open_points hf0
  obtain ⟨a1, n1, c1, rfl⟩ := okWide_slice Tryz.underlying23 (hval 1 _ v1 rfl rfl)
  obtain ⟨fu1, hf1⟩ := h1
  obtain ⟨at_, T, capt, e1, hct, _⟩ := open_tris hf1
  obtain ⟨pt, rfl, hp⟩ := open_point (hval 2 _ v2 rfl rfl) h2
  obtain ⟨m3, rfl⟩ := okWide_int Tryz.underlying83 (hval 3 _ v3 rfl rfl)
  obtain ⟨fu3, hf3⟩ := h3
  obtain ⟨s3, rfl, hs3⟩ := open_seed hf3
  rw [e0] at hW' harg0 ⊢
  rw [e1] at hW' harg1 ⊢
  refine (walkFinds_walk l ad cap T at_ capt pt s3 h64 hp hs3 W hc hct).mono fun e W' ⟨he, hn⟩ => ?_
  subst he
  refine ⟨_, rfl, _, _, _, [], _, [], hW', ?_, trodAll_mk4 (harg0 _ hn) (harg1 _ hn) (harg2 _ hn) (harg3 _ hn), rfl, hn.frame _, fun h => by cases h⟩
  exact trodAll_mk1 (shut_bool Tryz.underlying4 true)

end Go.Proofs.YtdoaniccefdkaaaGreatDoor
