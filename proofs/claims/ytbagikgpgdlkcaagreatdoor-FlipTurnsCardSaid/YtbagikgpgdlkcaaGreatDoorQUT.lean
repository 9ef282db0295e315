/- trivetlaw17.FlipTurns: it returns true, whatever the input, and each argument reads as it read. -/
import Derived.Test.YtbagikgpgdlkcaaGreatDoorRows
import Derived.Test.YtbagikgpgdlkcaaGreatDoorTie
import Derived.Test.YtbagikgpgdlkcaaGreatDoorCards
import Derived.Test.YtbagikgpgdlkcaaGreatDoorQUS
import Derived.Stop.Joined
import Derived.SevenTiedAt
set_option linter.all false
set_option maxHeartbeats 8000000
set_option maxRecDepth 100000
namespace Go.Proofs.YtbagikgpgdlkcaaGreatDoor
open Go.ChangeShapes Go.WideShapes Go.ChangeAt Go.RowKit Go.Deep
theorem may_all17 {l : List Pt} (hk : allCode l = 0) : ∀ p, p ∈ l → ptOK p = true := by
 unfold allCode at hk
 split at hk
 ·cases hk
 ·split at hk
  ·rename_i h; exact List.all_eq_true.1 h
  ·cases hk
theorem fturns_walk {w : World} {l : List Pt} {ap : Option Addr} {cp : Nat} {T : List Tri3} {at_ : Option Addr} {ct : Nat} {S : List Seg3} {sa : Option Addr} {cs : Nat} {L : List (Int × Int)} {la : Option Addr} {cl : Nat} (h : GivenV w l ap cp T at_ ct S sa cs) (hp : PrCells w la L) (hi : ∀ e, e ∈ L → i64ok e.1 ∧ i64ok e.2) :
  Calls Tryz.prog 4 #[.agg #[.slice ap l.length cp, .slice at_ T.length ct, .slice sa S.length cs], .slice la L.length cl] w fun r w' => r = .returned (.bool true) ∧ Below w.heap.size w w' := by
 by_cases hbig : 60 < l.length ∨ 120 < T.length ∨ 60 < S.length ∨ 60 < L.length
 ·exact fturns_big hbig
 ·by_cases hk : allCode l = 0
  ·exact fturns_main h hk (by omega) (by omega) (by omega) (by omega) hp hi (may_all17 hk)
  ·exact fturns_nil h hk (by omega) (by omega) (by omega) (by omega)
theorem ownK17 : ownKnob Tryz.prog.godebug = none := by kernel_rfl
theorem door_met17 (os : Os) (args : Array Value) : laidMetH Tryz.prog [("math/bits.deBruijn32tab", Rows.laid_math_bits_deBruijn32tab)] ((World.doorLaid Tryz.prog 400 os).forCall (fun _ _ => 0) ⟨#[], args, []⟩).memory :=
 laidMetH_of_parts3 (fuel := 8) (laidMet_of_run' 8 (by kernel_rfl) (by kernel_rfl)) (by kernel_rfl) (by kernel_rfl)
theorem fturns_lifted (os : Os) (started : os.Started) (H : Type) (enc : TypeId × Value → H) :
  ReturnsInHanded {} Tryz.checked os 4 .any (fun w args => (Rows.flipTurnsSpec.pre enc Tryz.prog Tryz.f4 [] false w args ∧ laidMetH Tryz.prog [("math/bits.deBruijn32tab", Rows.laid_math_bits_deBruijn32tab)] w) ∧ sizedMet enc Tryz.prog Tryz.f4 (OpenSpec.ofChange Rows.flipTurnsSpec) false w args)
   (Rows.flipTurnsSpec.post enc Tryz.prog Tryz.f4 false true false false) := by
 refine returnsInHanded_of_change_and (C := Tryz.checked) (X := fun w _ => laidMetH Tryz.prog [("math/bits.deBruijn32tab", Rows.laid_math_bits_deBruijn32tab)] w) (fun _ _ _ hh h => h.of_heap hh) ownK17 started (by kernel_rfl) Tryz.func4
  (ChangeSpec.witness_shaped (enc := enc) (C := Tryz.checked) (os := os) (X := fun w _ => laidMetH Tryz.prog [("math/bits.deBruijn32tab", Rows.laid_math_bits_deBruijn32tab)] w) false (World.doorLaid Tryz.prog 400 os) #[.agg #[.slice none 0 0, .slice none 0 0, .slice none 0 0], .slice none 0 0] 8 rfl (World.shaped_of_RefB (by kernel_rfl) (by kernel_rfl)) (by kernel_rfl) (by kernel_rfl) (by kernel_rfl) (door_met17 os _)) ?_
 intro W base args ds gs before hval0 hW _ _ hL _
 have hval : ∀ (j : Nat) t v, Tryz.f4.params[j]? = some t → args[j]? = some v → Value.okWide Tryz.prog W .any base t v := hval0
 have hW' := hW
 obtain ⟨p, q, hA0, hV, rfl, hfz, hnd⟩ := hW
 have hA : DataW.TrodAll enc Tryz.prog W 0 (fun _ => true) true Tryz.f4.params.toList args.toList ds p := hA0
 rw [Tryz.params4] at hA hval
 obtain ⟨v0, v1, d0, d1, p0, p1, rfl, rfl, rfl, h0, h1⟩ := trodAll_two hA
 obtain ⟨rfl, rfl⟩ := trodVars_none hV
 simp only [List.append_nil] at hW'
 have hlt : ∀ y ∈ p0 ++ p1, y.block < W.heap.size := fun y hy => by simpa using hW'.lt y (by simpa using hy)
 have hlaid : laidOutB Tryz.prog = true := laidOut
 have harg0 : ∀ W' : World, Below W.heap.size W W' → DataW.Trod enc Tryz.prog W' 0 (fun b => decide (b < W.heap.size)) true 26 v0 d0 p0 :=
  fun W' hn => Below.trod hlaid (by kernel_rfl) (of_decide_eq_true (by kernel_rfl)) h0 hn (fun y hy => hlt y (by simp [hy]))
 have harg1 : ∀ W' : World, Below W.heap.size W W' → DataW.Trod enc Tryz.prog W' 0 (fun b => decide (b < W.heap.size)) true 38 v1 d1 p1 :=
  fun W' hn => Below.trod hlaid (by kernel_rfl) (of_decide_eq_true (by kernel_rfl)) h1 hn (fun y hy => hlt y (by simp [hy]))
 obtain ⟨l, ap, cp, T, at_, ct, S, sa, cs, e0, hG⟩ := open_given17 (hval 0 _ v0 rfl rfl) h0
 obtain ⟨a1, n1, c1, rfl⟩ := okWide_slice Tryz.underlying38 (hval 1 _ v1 rfl rfl)
 obtain ⟨fu1, hf1⟩ := h1
 obtain ⟨la, L, cl, e1, hpc, hpi⟩ := open_prs17 hf1
 rw [e0] at hW' harg0 ⊢
 rw [e1] at hW' harg1 ⊢
 refine (fturns_walk hG hpc hpi).mono fun e W' ⟨he, hn⟩ => ?_
 subst he
 refine ⟨_, rfl, _, _, _, [], _, [], hW', ?_, trodAll_mk2 (harg0 _ hn) (harg1 _ hn), rfl, hn.frame _, fun h => by cases h⟩
 exact trodAll_mk1 (shut_bool Tryz.underlying4 true)
end Go.Proofs.YtbagikgpgdlkcaaGreatDoor
