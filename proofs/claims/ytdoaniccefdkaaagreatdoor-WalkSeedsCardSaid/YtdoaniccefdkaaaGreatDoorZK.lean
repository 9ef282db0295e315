/- Part of the proof. No conditions. -/
import Derived.Test.YtdoaniccefdkaaaGreatDoorZJ

set_option linter.all false
/- trivetref07.All. -/
namespace Go.Proofs.YtdoaniccefdkaaaGreatDoor
open Go.RowKit Tvf Go.Maps Go.WideMaps

set_option maxRecDepth 100000 in
set_option maxHeartbeats 4000000 in
/-- which points may be, by the document -/
theorem all07 (l : List Pt) (ad : Option Addr) (cap : Nat) (h64 : ∀ p, p ∈ l → pt64 p) (w : World) (hc : PCells w ad l) :
    Calls Tryz.prog 32 #[.slice ad l.length cap] w fun r w' => ∃ i : Int, r = .returned (.tuple #[.int .i64 i, .int .i64 (allCode l)]) ∧ Below w.heap.size w w' := by
  have HC := Lib.hid hc
  have H64 := Lib.hid h64
  clear hc h64
  by_cases hl : 1048576 < l.length
  · have e : allCode l = 3 := by unfold allCode; rw [if_pos hl]
    rw [e]
    go_enter Tryz.func32, Tryz.ntmps32
    go_wp2
    go_ret2
    exact ⟨0, rfl, Below.refl _ _⟩
  · have HA : Hid (allCode l = if l.all ptOK then 0 else 10) := by unfold Hid allCode; rw [if_neg hl]
    go_enter Tryz.func32, Tryz.ntmps32
    go_wp2
    go_loopw [4] (fun i wr => ∃ n : Nat, n ≤ l.length ∧ i = .int .i64 n ∧ Hid ((l.take n).all ptOK = true) ∧ Below w.heap.size w wr) (fun i _ => l.length - (intOf i).toNat)
    case atStart => exact ⟨0, Nat.zero_le _, rfl, by simp [Hid], Below.refl _ _⟩
    case round =>
      obtain ⟨n, hn, rfl, HO, hbw⟩ := hrel
      by_cases hlt : n < l.length
      · obtain ⟨bb, off, rfl, hbb, hc⟩ := HC.out (by omega)
        have hcx : wr.cell? ⟨bb, off + n * 2, none⟩ = some (.float .f64 (l.getD n (0, 0)).1) := (hbw.cell (p := ⟨bb, off + n * 2, none⟩) hbb).trans (hc n hlt).1
        have hcy : wr.cell? ⟨bb, off + n * 2 + 1, none⟩ = some (.float .f64 (l.getD n (0, 0)).2) := (hbw.cell (p := ⟨bb, off + n * 2 + 1, none⟩) hbb).trans (hc n hlt).2
        clear hc
        have hm := getD_memP hlt
        have HN : Hid (∀ W, Calls Tryz.prog 96 #[.agg #[.float .f64 (l.getD n (0, 0)).1, .float .f64 (l.getD n (0, 0)).2]] W fun r w' => r = .returned (.bool (ptOK (l.getD n (0, 0)))) ∧ Below W.heap.size W w') := fun W => may05 (H64.out _ hm)
        have HT := Lib.hid (take_snocP l n hlt)
        have HALL : Hid (ptOK (l.getD n (0, 0)) = false → allCode l = 10) := fun h => by
          have : l.all ptOK = false := by rw [List.all_eq_false]; exact ⟨_, hm, by rw [h]; simp⟩
          rw [HA.out, this]; rfl
        clear hm
        have HON : Hid (ptOK (l.getD n (0, 0)) = true → (l.take (n + 1)).all ptOK = true) := fun h => by
          rw [HT.out, List.all_append, HO.out]; simp only [List.all_cons, List.all_nil, Bool.and_true, Bool.true_and]; exact h
        clear HT
        generalize l.getD n (0, 0) = p at *
        generalize ptOK p = ok at *
        obtain ⟨x, y⟩ := p
        dsimp only at hcx hcy HN
        cases ok
        · have HF := Lib.hid (HALL.out rfl)
          go_wp2_with (go_at_call 96; (with_reducible refine (HN.out _).mono ?_); rintro r w1 ⟨rfl, hb1⟩)
          go_ret2
          rw [HF.out]
          exact ⟨_, rfl, hbw.trans (hb1.mono hbw.size)⟩
        · have HF := Lib.hid (HON.out rfl)
          have hw1 : wrap64 ((n : Int) + 1) = ((n + 1 : Nat) : Int) := by unfold wrap64; omega
          go_wp2_with (go_at_call 96; (with_reducible refine (HN.out _).mono ?_); rintro r w1 ⟨rfl, hb1⟩)
          go_roundw
          case rel => exact ⟨n + 1, by omega, by rfl, HF, hbw.trans (hb1.mono hbw.size)⟩
          case measure => simp [intOf]; omega
      · have e : n = l.length := by omega
        subst e
        have HF : Hid (allCode l = 0) := by
          have := HO.out
          rw [List.take_length] at this
          unfold Hid; rw [HA.out, this]; rfl
        go_wp2
        go_ret2
        rw [HF.out]
        exact ⟨_, rfl, hbw⟩

end Go.Proofs.YtdoaniccefdkaaaGreatDoor
