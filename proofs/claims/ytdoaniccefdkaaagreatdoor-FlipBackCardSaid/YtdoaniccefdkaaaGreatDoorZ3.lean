/- Part of the proof. No conditions. -/
import Derived.Test.YtdoaniccefdkaaaGreatDoorZ2
import Derived.Maps.RangeWalk

set_option linter.all false
/- expand.low, expand.within. -/
namespace Go.Proofs.YtdoaniccefdkaaaGreatDoor
open Go.RowKit Tvf

/-- uint64 of a whole number -/
theorem to_u64 {x M : Nat} (hx : fin x) (hv : fval x = (M : Int) * 2 ^ unitE) (hM : M < 2 ^ 63) : floatToIntVal .f64 x .u64 = some (M : Int) := by
  obtain ⟨m, k, e1, v1, hm⟩ := read_fin hx
  have hab : m * 2 ^ k = M * 2 ^ unitE := by
    have := natAbs_fval x
    rw [hv, Int.natAbs_mul, natAbs_two_pow, v1] at this
    simpa using this.symm
  have hz : M = 0 ∨ fneg x = false := by
    by_cases h0 : M = 0
    · exact Or.inl h0
    · right
      cases h : fneg x
      · rfl
      · have h1 : fval x = -(mg (x % 2 ^ 63) : Int) := by unfold fval; rw [h]; rfl
        have h2 : 0 < (M : Int) * 2 ^ unitE := Int.mul_pos (by omega) (Int.pow_pos (by omega))
        omega
  unfold floatToIntVal
  have hd : FloatKind.f64.decode x = .number (fneg x) m (-1074 + (k : Int)) := e1
  rw [hd]
  unfold Ieee.Datum.toInt Ieee.Datum.integral
  simp only [cut_zero, Nat.shiftLeft_eq]
  have hmag : m * 2 ^ (-1074 + (k : Int)).toNat / 2 ^ (-(-1074 + (k : Int))).toNat = M := by
    have hu := unitE_eq
    by_cases hk : unitE ≤ k
    · rw [show (-1074 + (k : Int)).toNat = k - unitE by omega, show (-(-1074 + (k : Int))).toNat = 0 by omega, Nat.pow_zero, Nat.div_one]
      have : m * 2 ^ (k - unitE) * 2 ^ unitE = M * 2 ^ unitE := by
        rw [Nat.mul_assoc, ← Nat.pow_add, show k - unitE + unitE = k by omega]; exact hab
      exact Nat.eq_of_mul_eq_mul_right (two_pow_pos _) this
    · rw [show (-1074 + (k : Int)).toNat = 0 by omega, show (-(-1074 + (k : Int))).toNat = unitE - k by omega, Nat.pow_zero, Nat.mul_one]
      have : m * 2 ^ k = M * 2 ^ (unitE - k) * 2 ^ k := by
        rw [Nat.mul_assoc, ← Nat.pow_add, show unitE - k + k = unitE by omega]; exact hab
      have := Nat.eq_of_mul_eq_mul_right (two_pow_pos k) this
      rw [this, Nat.mul_div_cancel _ (two_pow_pos _)]
  rw [hmag, signed_eq, Nat.pow_zero, Nat.mul_one]
  have hs : sgn (fneg x) M = (M : Int) := by
    rcases hz with h | h
    · subst h; unfold sgn; split <;> rfl
    · rw [h]; rfl
  rw [hs]
  show (if IntKind.u64.min ≤ (M : Int) ∧ (M : Int) ≤ IntKind.u64.max then some (M : Int) else none) = _
  rw [if_pos]
  show (0 : Int) ≤ (M : Int) ∧ (M : Int) ≤ 2 ^ 64 - 1
  omega

theorem and_1u (n : Nat) (h : n < 2 ^ 64) : bits .and .u64 (n : Int) 1 = ((n % 2 : Nat) : Int) := by
  rw [u64_and _ _ (by omega) (by omega) (by omega) (by omega)]
  show ((n &&& (2 ^ 1 - 1) : Nat) : Int) = _
  rw [Nat.and_two_pow_sub_one_eq_mod]

/-- the lowest digit -/
def LowOf (z r : Int) : Prop := ∃ (v : Nat) (q : Int), r = 2 ^ v ∧ z = q * 2 ^ v ∧ q % 2 = 1

set_option maxRecDepth 100000 in
set_option maxHeartbeats 1000000 in
theorem low_walk (x : Nat) (h64 : x < 2 ^ 64) (f g M t : Nat) (R : Nat → Nat)
    (hc : ∀ w, Calls Tryz.prog 260 #[.float .f64 (x % 2 ^ 63)] w fun e w' => e = .returned (.tuple #[.float .f64 f, .int .i64 ((t : Int) - 1073)]) ∧ w = w')
    (hc2 : ∀ w, Calls Tryz.prog 252 #[.float .f64 f, .int .i64 53] w fun e w' => e = .returned (.float .f64 g) ∧ w = w')
    (hg : ∀ w, (convert 50 83 (.float .f64 g)).run Tryz.prog w = .ok (.int .u64 (M : Int)) w)
    (hM0 : 0 < M) (hM1 : M < 2 ^ 53) (ht : t < 2 ^ 12)
    (hr : ∀ n c : Nat, M = n * 2 ^ c → n % 2 = 1 → ∀ w, Calls Tryz.prog 252 #[.float .f64 4607182418800017408, .int .i64 ((t : Int) - 1126 + c)] w fun e w' => e = .returned (.float .f64 (R c)) ∧ w = w') (w : World) :
    Calls Tryz.prog 322 #[.float .f64 x] w fun e w' => (∃ n c : Nat, M = n * 2 ^ c ∧ n % 2 = 1 ∧ e = .returned (.float .f64 (R c))) ∧ w = w' := by
  have HC := Lib.hid hc
  have HC2 := Lib.hid hc2
  have HR := Lib.hid hr
  clear hc hc2 hr
  go_enter Tryz.func322, Tryz.ntmps322
  go_wp2_with (first | (go_at_call 184; refine (abs_any _ h64 _).mono ?_; rintro e w' ⟨rfl, rfl⟩) | (go_at_call 260; refine (HC.out _).mono ?_; rintro e w' ⟨rfl, rfl⟩) | (go_at_call 252; refine (HC2.out _).mono ?_; rintro e w' ⟨rfl, rfl⟩))
  go_loop [4, 5] (fun e n => ∃ c k : Nat, M = k * 2 ^ c ∧ 0 < k ∧ c < 2 ^ 12 ∧ e = .int .i64 ((t : Int) - 1126 + c) ∧ n = .int .u64 (k : Int)) (fun _ n => (intOf n).toNat)
  case atStart => exact ⟨0, M, by simp, hM0, by omega, by go_num, rfl⟩
  case round =>
    obtain ⟨c, k, hk, hk0, hc12, rfl, rfl⟩ := hrel
    have hkM : k ≤ M := by rw [hk]; exact Nat.le_mul_of_pos_right _ (two_pow_pos c)
    have hcb : c ≤ 53 := by
      apply Classical.byContradiction; intro hcc
      have h1 : 2 ^ 54 ≤ 2 ^ c := Nat.pow_le_pow_right (by omega) (by omega)
      have h2 : 2 ^ c ≤ M := by rw [hk]; exact Nat.le_mul_of_pos_left _ hk0
      omega
    have hk53 : k < 2 ^ 53 := by omega
    by_cases hp : k % 2 = 0
    · have H := and_1u k (by omega)
      rw [hp] at H
      have hk2 : M = (k / 2) * 2 ^ (c + 1) := by
        rw [Nat.pow_succ, Nat.mul_comm _ 2, ← Nat.mul_assoc, show k / 2 * 2 = k by omega]; exact hk
      have hk20 : 2 ≤ k := by omega
      have HK := Lib.hid hk2
      clear hk hkM hk2 hp hM0
      go_wp2
      go_round
      case rel => exact ⟨c + 1, k / 2, HK.out, by omega, by omega, by go_num, by go_num⟩
      case measure => simp [intOf]; omega
    · have H := and_1u k (by omega)
      rw [show k % 2 = 1 by omega] at H
      have HK := Lib.hid hk
      have HP := Lib.hid (show k % 2 = 1 by omega)
      clear hk hkM hp hM0
      go_wp2_with (go_at_call 252; refine (HR.out k c HK.out HP.out _).mono ?_; rintro e w' ⟨rfl, rfl⟩)
      go_ret
      exact ⟨⟨k, c, HK.out, HP.out, rfl⟩, rfl⟩

theorem fin_one : fin 4607182418800017408 := by unfold fin; omega

/-- expand.low of a number that is not nought -/
theorem low_exact (x : Nat) (hx : fin x) (h0 : fval x ≠ 0) :
    ∃ r, (∀ w, Calls Tryz.prog 322 #[.float .f64 x] w fun e w' => e = .returned (.float .f64 r) ∧ w = w') ∧ fin r ∧ LowOf (fval x) (fval r) := by
  have hx1 := hx.1
  have hu := unitE_eq
  have ht0 := top_eq
  have hpos : 0 < fval (x % 2 ^ 63) := by rw [fval_abs]; omega
  obtain ⟨f, M, t, hc, hf, hfv, hM1, hM2, hval, ht⟩ := Frexp_exact (x % 2 ^ 63) (fin_abs hx) hpos
  obtain ⟨g, hc2, hg, hgv⟩ := Ldexp_exact f hf 53 ((M : Int) * 2 ^ unitE) 0 53 (by
    rw [hfv, Int.mul_assoc, ← Int.pow_add, show e1021 + 53 = unitE from rfl, Int.pow_zero, Int.mul_one]) (by omega) (by omega) (by omega) (by
    rw [Int.natAbs_mul, natAbs_two_pow, Int.natAbs_natCast]
    refine Nat.lt_of_lt_of_le (Nat.mul_lt_mul_of_pos_right hM2 (two_pow_pos _)) ?_
    rw [← Nat.pow_add]
    exact Nat.pow_le_pow_right (by omega) (by omega))
  have hconv : ∀ w, (convert 50 83 (.float .f64 g)).run Tryz.prog w = .ok (.int .u64 (M : Int)) w := fun w =>
    run_convert_float_int w 50 83 .f64 .u64 g M (by rw [Tryz.underlying50]; rfl) Tryz.underlying83 (to_u64 hg hgv (by omega))
  rw [fval_abs] at hval
  have cast : ∀ (a b : Nat), ((a * 2 ^ b : Nat) : Int) = (a : Int) * 2 ^ b := fun a b => by simp
  have hval' : (fval x).natAbs * 2 ^ 52 = M * 2 ^ t := by
    have := hval; rw [← cast, ← cast] at this; exact Int.ofNat.inj this
  -- the number of the lowest digit does not hang on how it was found
  have key : ∀ n c : Nat, M = n * 2 ^ c → n % 2 = 1 → 52 ≤ c + t ∧ (fval x).natAbs = n * 2 ^ (c + t - 52) := by
    intro n c h1 h2
    rw [h1, Nat.mul_assoc, ← Nat.pow_add] at hval'
    by_cases h52 : 52 ≤ c + t
    · refine ⟨h52, ?_⟩
      apply Nat.eq_of_mul_eq_mul_right (two_pow_pos 52)
      rw [hval', Nat.mul_assoc, ← Nat.pow_add, show c + t - 52 + 52 = c + t by omega]
    · exfalso
      have e1 : (fval x).natAbs * 2 ^ (52 - (c + t)) = n := by
        apply Nat.eq_of_mul_eq_mul_right (two_pow_pos (c + t))
        rw [Nat.mul_assoc, ← Nat.pow_add, show 52 - (c + t) + (c + t) = 52 by omega]; exact hval'
      rw [show 52 - (c + t) = (52 - (c + t) - 1) + 1 by omega, Nat.pow_succ, ← Nat.mul_assoc] at e1
      omega
  have uniq : ∀ n c n' c' : Nat, M = n * 2 ^ c → n % 2 = 1 → M = n' * 2 ^ c' → n' % 2 = 1 → c = c' := by
    intro n c n' c' h1 h2 h3 h4
    have gen : ∀ a b p q : Nat, p * 2 ^ a = q * 2 ^ b → p % 2 = 1 → b ≤ a := by
      intro a b p q h hp
      apply Classical.byContradiction
      intro hab
      have : p = q * 2 ^ (b - a) := by
        apply Nat.eq_of_mul_eq_mul_right (two_pow_pos a)
        rw [h, Nat.mul_assoc, ← Nat.pow_add, show b - a + a = b by omega]
      rw [show b - a = (b - a - 1) + 1 by omega, Nat.pow_succ, ← Nat.mul_assoc] at this
      omega
    have a1 := gen c c' n n' (by rw [← h1, ← h3]) h2
    have a2 := gen c' c n' n (by rw [← h1, ← h3]) h4
    omega
  have hr : ∀ c : Nat, ∃ r, (∀ n, M = n * 2 ^ c → n % 2 = 1 → (∀ w, Calls Tryz.prog 252 #[.float .f64 4607182418800017408, .int .i64 ((t : Int) - 1126 + c)] w fun e w' => e = .returned (.float .f64 r) ∧ w = w') ∧ fin r ∧ fval r = 2 ^ (c + t - 52)) := by
    intro c
    by_cases h : ∃ n, M = n * 2 ^ c ∧ n % 2 = 1
    · obtain ⟨n, h1, h2⟩ := h
      obtain ⟨k1, k2⟩ := key n c h1 h2
      have hc53 : c ≤ 53 := by
        apply Classical.byContradiction; intro hcc
        have h3 : 2 ^ 54 ≤ 2 ^ c := Nat.pow_le_pow_right (by omega) (by omega)
        have h4 : 2 ^ c ≤ M := by rw [h1]; exact Nat.le_mul_of_pos_left _ (by omega)
        omega
      obtain ⟨r, r1, r2, r3⟩ := Ldexp_exact 4607182418800017408 fin_one ((t : Int) - 1126 + c) (2 ^ (c + t - 52)) unitE (c + t - 52) (by rw [fval_one, Int.mul_comm]) (by omega) (by omega) (by omega) (by
        rw [natAbs_two_pow]
        refine Nat.lt_of_le_of_lt ?_ (fval_lt_top hx)
        rw [k2]; exact Nat.le_mul_of_pos_left _ (by omega))
      exact ⟨r, fun _ _ _ => ⟨r1, r2, r3⟩⟩
    · exact ⟨0, fun n h1 h2 => absurd ⟨n, h1, h2⟩ h⟩
  obtain ⟨R, hR⟩ := Classical.axiomOfChoice hr
  have hw := low_walk x hx.1 f g M t R hc hc2 hconv (by omega) hM2 ht (fun n c h1 h2 => (hR c n h1 h2).1)
  -- the one that is found
  have hex : ∃ n c : Nat, M = n * 2 ^ c ∧ n % 2 = 1 := by
    have gen : ∀ k m : Nat, 0 < m → m < 2 ^ k → ∃ n c : Nat, m = n * 2 ^ c ∧ n % 2 = 1 := by
      intro k
      induction k with
      | zero => intro m h1 h2; omega
      | succ k ih =>
        intro m h1 h2
        by_cases hm : m % 2 = 1
        · exact ⟨m, 0, by simp, hm⟩
        · rw [Nat.pow_succ] at h2
          obtain ⟨n, c, h3, h4⟩ := ih (m / 2) (by omega) (by omega)
          refine ⟨n, c + 1, ?_, h4⟩
          rw [Nat.pow_succ, ← Nat.mul_assoc, ← h3]; omega
    exact gen 53 M (by omega) hM2
  obtain ⟨n, c, h1, h2⟩ := hex
  refine ⟨R c, fun w => (hw w).mono ?_, (hR c n h1 h2).2.1, ?_⟩
  · rintro e w' ⟨⟨n', c', h3, h4, he⟩, hww⟩
    rw [uniq n c n' c' h1 h2 h3 h4]
    exact ⟨he, hww⟩
  · obtain ⟨k1, k2⟩ := key n c h1 h2
    rw [(hR c n h1 h2).2.2]
    by_cases hs : 0 ≤ fval x
    · exact ⟨_, n, rfl, by rw [← cast, ← k2]; omega, by omega⟩
    · exact ⟨_, -(n : Int), rfl, by rw [Int.neg_mul, ← cast, ← k2]; omega, by omega⟩

end Go.Proofs.YtdoaniccefdkaaaGreatDoor

/- Maps as functions from keys to values: the laws on a map's block, with no datum in sight. -/
namespace Go.Proofs.YtdoaniccefdkaaaGreatDoor
open Go.RowKit Go.Maps

/-- an element reads as itself -/
def tokR (v : Value) : Option (DataW Value × List MemPlace) := some (.held v, [])

/-- a function, and one key more -/
noncomputable def updV (f : Value → Option Value) (k v : Value) : Value → Option Value := fun x => open Classical in if x = k then some v else f x
/-- a function, and one key less -/
noncomputable def delV (f : Value → Option Value) (k : Value) : Value → Option Value := fun x => open Classical in if x = k then none else f x

theorem updV_same (f : Value → Option Value) (k v : Value) : updV f k v k = some v := by simp [updV]
theorem updV_other (f : Value → Option Value) {k x : Value} (v : Value) (h : x ≠ k) : updV f k v x = f x := by simp [updV, h]
theorem delV_same (f : Value → Option Value) (k : Value) : delV f k k = none := by simp [delV]
theorem delV_other (f : Value → Option Value) {k x : Value} (h : x ≠ k) : delV f k x = f x := by simp [delV, h]

section
variable {P : Program} {k : TypeId} {w : World} {b n : Nat} {f : Value → Option Value}

/-- What a datum is as a function. -/
structure DataF (P : Program) (k : TypeId) (D : DataW Value) (f : Value → Option Value) : Prop where
  has : ∀ key kl, keyOf P k key = some kl → Maps.has D kl = (f key).isSome
  val : ∀ key kl v, keyOf P k key = some kl → f key = some v → ∀ zd, D.atKey kl zd = .held v
  key : ∀ key, f key ≠ none → ∃ kl, keyOf P k key = some kl

/-- Block b of w is a map of at most n entries: the function f. -/
def FMap (P : Program) (w : World) (k : TypeId) (b n : Nat) (f : Value → Option Value) : Prop :=
  ∃ D, w.ownsMap P k tokR b n D ∧ DataF P k D f

theorem FMap.made (P : Program) (w : World) (k : TypeId) : FMap P (w.alloc (.map #[] 0)) k w.heap.size 0 (fun _ => none) :=
  ⟨_, World.ownsMap_made w P k tokR, ⟨fun _ _ _ => rfl, fun _ _ _ _ h => (nomatch h), fun _ h => absurd rfl h⟩⟩

theorem FMap.mono (h : FMap P w k b n f) {n' : Nat} (hn : n ≤ n') : FMap P w k b n' f := by
  obtain ⟨D, h1, h2⟩ := h; exact ⟨D, h1.mono hn, h2⟩
theorem FMap.lt (h : FMap P w k b n f) : b < w.heap.size := by obtain ⟨D, h1, _⟩ := h; exact h1.lt
theorem FMap.kept {w' : World} {row : Option Nat} (h : FMap P w k b n f) (hg : w.grownBy w' row) (hne : some b ≠ row) : FMap P w' k b n f := by
  obtain ⟨D, h1, h2⟩ := h; exact ⟨D, h1.kept hg hne, h2⟩
theorem FMap.same {w' : World} (h : FMap P w k b n f) (hb : w'.heap[b]? = w.heap[b]?) : FMap P w' k b n f := by
  obtain ⟨D, ⟨es, clock, h1, h3⟩, h2⟩ := h; exact ⟨D, ⟨es, clock, hb.trans h1, h3⟩, h2⟩
theorem FMap.isMap (h : FMap P w k b n f) : ∃ es clock, w.heap[b]? = some (.map es clock) := by
  obtain ⟨D, ⟨es, clock, h1, h3⟩, h2⟩ := h; exact ⟨es, clock, h1⟩
theorem FMap.fn (h : FMap P w k b n f) {f' : Value → Option Value} (e : ∀ x, f x = f' x) : FMap P w k b n f' := by
  have : f = f' := funext e
  rw [← this]; exact h

theorem keys_ne (K : Keyed P k) {key key' : Value} {kl kl' : Lit} (h : keyOf P k key = some kl) (h' : keyOf P k key' = some kl') (hne : key' ≠ key) : kl' ≠ kl :=
  fun e => hne (K.inj (h' ▸ congrArg some e) h)

theorem isMap_of {D : DataW Value} {R : Value → Option (DataW Value × List MemPlace)} (h : w.ownsMap P k R b n D) : Maps.IsMap D := by
  obtain ⟨es, clock, _, _, _, rfl⟩ := h; exact ⟨_, rfl⟩

theorem DataF.put {D : DataW Value} (hm : Maps.IsMap D) (K : Keyed P k) (h : DataF P k D f) {key : Value} {kl : Lit} (hkey : keyOf P k key = some kl) (v : Value) : DataF P k (D.put kl (.held v)) (updV f key v) := by
  refine ⟨fun key' kl' hk' => ?_, fun key' kl' v' hk' hf zd => ?_, fun key' hk' => ?_⟩
  · by_cases e : key' = key
    · subst e
      rw [hkey] at hk'; cases hk'
      rw [Maps.has_put_same hm (K.key hkey), updV_same]; rfl
    · rw [Maps.has_put_other (keys_ne K hkey hk' e), updV_other _ _ e]; exact h.has _ _ hk'
  · by_cases e : key' = key
    · subst e
      rw [hkey] at hk'; cases hk'
      rw [updV_same] at hf; cases hf
      rw [Maps.atKey_put_same hm (K.key hkey)]
    · rw [updV_other _ _ e] at hf
      rw [Maps.atKey_put_other (keys_ne K hkey hk' e)]; exact h.val _ _ _ hk' hf zd
  · by_cases e : key' = key
    · subst e; exact ⟨_, hkey⟩
    · rw [updV_other _ _ e] at hk'; exact h.key _ hk'

theorem DataF.del {D : DataW Value} (K : Keyed P k) (h : DataF P k D f) {key : Value} {kl : Lit} (hkey : keyOf P k key = some kl) : DataF P k (D.del kl) (delV f key) := by
  refine ⟨fun key' kl' hk' => ?_, fun key' kl' v' hk' hf zd => ?_, fun key' hk' => ?_⟩
  · by_cases e : key' = key
    · subst e
      rw [hkey] at hk'; cases hk'
      rw [Maps.has_del_same, delV_same]; rfl
    · rw [Maps.has_del_other (keys_ne K hkey hk' e), delV_other _ e]; exact h.has _ _ hk'
  · by_cases e : key' = key
    · subst e; rw [delV_same] at hf; cases hf
    · rw [delV_other _ e] at hf
      rw [Maps.atKey_del_other (keys_ne K hkey hk' e)]; exact h.val _ _ _ hk' hf zd
  · by_cases e : key' = key
    · subst e; exact ⟨_, hkey⟩
    · rw [delV_other _ e] at hk'; exact h.key _ hk'

theorem held_inj {v u : Value} (h : tokR v = some (DataW.held u, [])) : v = u := by
  unfold tokR at h; cases h; rfl

/-- 'm[k]', with ok or without -/
theorem FMap.look {t e : TypeId} (h : FMap P w k b n f) (K : Keyed P k) (ht : P.underlying t = some (.map k e)) {z : Value} (hz : (zeroValue e).run P w = .ok z w) {key : Value} {kl : Lit} (hkey : keyOf P k key = some kl) :
    (Instr.lookup t (.map (some b)) key false).run P w = .ok ((f key).getD z) w ∧ (Instr.lookup t (.map (some b)) key true).run P w = .ok (.tuple #[(f key).getD z, .bool (f key).isSome]) w := by
  obtain ⟨D, hown, hD⟩ := h
  have hh := hD.has key kl hkey
  obtain ⟨v, ps, hrun, hv⟩ := hown.lookup K ht hz (rfl : tokR z = some (.held z, [])) hkey
  obtain ⟨v2, ps2, hrun2, hv2⟩ := hown.look_ok K ht hz (rfl : tokR z = some (.held z, [])) hkey
  have ev : ∀ v ps, tokR v = some (D.atKey kl (.held z), ps) → v = (f key).getD z := by
    intro v ps hv
    cases hf : f key with
    | none =>
      rw [hf] at hh
      rw [Maps.atKey_of_not_has (by simpa using hh)] at hv
      unfold tokR at hv; cases hv; rfl
    | some u =>
      rw [hD.val key kl u hkey hf] at hv
      unfold tokR at hv; cases hv; rfl
  rw [hrun, hrun2, ev v ps hv, ev v2 ps2 hv2, hh]
  exact ⟨rfl, rfl⟩

end

/-- 'm[k] = v' as an equation -/
theorem FMap.store {P : Program} {k : TypeId} {w : World} {b n : Nat} {f : Value → Option Value} {t e : TypeId} (h : FMap P w k b n f) (K : Keyed P k) (ht : P.underlying t = some (.map k e)) (hn : n < maxLen) {key : Value} {kl : Lit} (hkey : keyOf P k key = some kl) (val : Value) :
    ∃ w', (Instr.mapUpdate t (.map (some b)) key val).run P w = .ok () w' ∧ FMap P w' k b (n + 1) (updV f key val) ∧ w.grownBy w' (some b) := by
  obtain ⟨D, hown, hD⟩ := h
  obtain ⟨w', hrun, h1, h2⟩ := hown.update K ht hn hkey (rfl : tokR val = some (.held val, []))
  exact ⟨w', hrun, ⟨_, h1, hD.put (isMap_of hown) K hkey val⟩, h2⟩

section
variable {P : Program} (w : World) {ops : Array Oper} {rest : List Oper} {o : Oper} {a : Act} {Q : Exit → Act → World → Prop}

theorem wp_look (hg : o.guard = none) (m x : Operand) (t : TypeId) (hop : o.op = Op.lookup t m x false) (k e : TypeId) (K : Keyed P k) (ht : P.underlying t = some (.map k e)) (z : Value) (hz : (zeroValue e).run P w = .ok z w)
    (b n : Nat) (f : Value → Option Value) (hm : a.eval m = .map (some b)) (h : FMap P w k b n f) (key : Value) (hx : a.eval x = key) (kl : Lit) (hkey : keyOf P k key = some kl) (v : Value) (hv : (f key).getD z = v)
    (hK : wpList P ops Q rest (a.put o.dst v) w) : wpList P ops Q (o :: rest) a w := by
  refine wpList_plain hg fun K' hK' => ?_
  have hrun := (h.look K ht hz hkey).1
  unfold Oper.wp
  simp [execOp, hop, hm, hx, hrun, Result.andThen]
  rw [hv]
  exact hK' _ _ hK

theorem wp_look_ok (hg : o.guard = none) (m x : Operand) (t : TypeId) (hop : o.op = Op.lookup t m x true) (k e : TypeId) (K : Keyed P k) (ht : P.underlying t = some (.map k e)) (z : Value) (hz : (zeroValue e).run P w = .ok z w)
    (b n : Nat) (f : Value → Option Value) (hm : a.eval m = .map (some b)) (h : FMap P w k b n f) (key : Value) (hx : a.eval x = key) (kl : Lit) (hkey : keyOf P k key = some kl) (v : Value) (hv : (f key).getD z = v) (ok : Bool) (hok : (f key).isSome = ok)
    (hK : wpList P ops Q rest (a.put o.dst (.tuple #[v, .bool ok])) w) : wpList P ops Q (o :: rest) a w := by
  refine wpList_plain hg fun K' hK' => ?_
  have hrun := (h.look K ht hz hkey).2
  unfold Oper.wp
  simp [execOp, hop, hm, hx, hrun, Result.andThen]
  rw [hv, hok]
  exact hK' _ _ hK

theorem wp_store (hg : o.guard = none) (m x v : Operand) (t : TypeId) (hop : o.op = Op.mapUpdate t m x v) (k e : TypeId) (K : Keyed P k) (ht : P.underlying t = some (.map k e))
    (b n : Nat) (f : Value → Option Value) (hm : a.eval m = .map (some b)) (h : FMap P w k b n f) (hn : n < maxLen) (key val : Value) (hx : a.eval x = key) (hv : a.eval v = val) (kl : Lit) (hkey : keyOf P k key = some kl)
    (hK : ∀ w', FMap P w' k b (n + 1) (updV f key val) → w.grownBy w' (some b) → wpList P ops Q rest (a.put o.dst undef) w') : wpList P ops Q (o :: rest) a w := by
  obtain ⟨D, hown, hD⟩ := h
  exact wpList_mapUpdate_own w hg m x v t hop k e K ht tokR b n D hm hown hn key val kl hx hv hkey (.held val) [] rfl
    (fun w' h1 h2 => hK w' ⟨_, h1, hD.put (isMap_of hown) K hkey val⟩ h2)

theorem wp_delete (hg : o.guard = none) (m x : Operand) (t k : TypeId) (hop : o.op = Op.call { callee := Callee.builtin Builtin.delete, args := #[m, x], argTypes := #[t, k] }) (e : TypeId) (K : Keyed P k) (ht : P.underlying t = some (.map k e))
    (b n : Nat) (f : Value → Option Value) (hm : a.eval m = .map (some b)) (h : FMap P w k b n f) (key : Value) (hx : a.eval x = key) (kl : Lit) (hkey : keyOf P k key = some kl)
    (hK : ∀ w', FMap P w' k b n (delV f key) → w.grownBy w' (some b) → wpList P ops Q rest (a.put o.dst (.tuple #[])) w') : wpList P ops Q (o :: rest) a w := by
  obtain ⟨D, hown, hD⟩ := h
  exact wpList_delete_own w hg m x t k hop e K ht tokR b n D hm hown key kl hx hkey
    (fun w' h1 h2 => hK w' ⟨_, h1, hD.del K hkey⟩ h2.grown)
end

/-! ### ranging -/
section
variable {P : Program} {k : TypeId} {w : World} {b r n cnt : Nat} {f : Value → Option Value} {lf : Value → Bool}

/-- 'for k, v := range m' under way: lf says which keys are still to come. -/
def FRange (P : Program) (w : World) (k : TypeId) (b r n : Nat) (f : Value → Option Value) (lf : Value → Bool) (cnt : Nat) : Prop :=
  ∃ D left, w.ranges P k tokR b r n D left cnt ∧ DataF P k D f ∧ (∀ key kl, keyOf P k key = some kl → lf key = left kl) ∧ (∀ key, lf key = true → f key ≠ none) ∧ ∀ kl, left kl = true → ∃ key, keyOf P k key = some kl

theorem FRange.owns (h : FRange P w k b r n f lf cnt) : FMap P w k b n f := by
  obtain ⟨D, left, h1, h2, _⟩ := h; exact ⟨D, h1.owns, h2⟩
theorem FRange.left_eq (h : FRange P w k b r n f lf cnt) : w.rangeLeft b r = cnt := by
  obtain ⟨D, left, h1, _⟩ := h; exact h1.left_eq
theorem FRange.kept {w' : World} {row : Option Nat} (h : FRange P w k b r n f lf cnt) (hg : w.grownBy w' row) (hb' : some b ≠ row) (hr' : some r ≠ row) : FRange P w' k b r n f lf cnt := by
  obtain ⟨D, left, h1, h2⟩ := h; exact ⟨D, left, h1.kept hg hb' hr', h2⟩
theorem FRange.ne (h : FRange P w k b r n f lf cnt) : r ≠ b := by obtain ⟨D, left, h1, _⟩ := h; exact h1.ne
theorem FRange.lt (h : FRange P w k b r n f lf cnt) : r < w.heap.size := by obtain ⟨D, left, h1, _⟩ := h; exact h1.lt

theorem has_key {D : DataW Value} (h : w.ownsMap P k tokR b n D) {kl : Lit} (hk : Maps.has D kl = true) : ∃ key, keyOf P k key = some kl := by
  obtain ⟨es, clock, _, F, _, rfl⟩ := h
  obtain ⟨p, hp, hpk⟩ := List.any_eq_true.1 hk
  obtain ⟨x, hx, rfl⟩ := List.mem_map.1 (mem_sorted.1 hp)
  obtain ⟨y, hy⟩ := F.reads x hx
  have := WideElems.rd_key hy
  refine ⟨x.key, ?_⟩
  rw [this, ← WideAt.sameKey_eq hpk, WideElems.rg_of hy]
end

section
variable {P : Program} (w : World) {ops : Array Oper} {rest : List Oper} {o : Oper} {a : Act} {Q : Exit → Act → World → Prop}

theorem wp_range (hg : o.guard = none) (m : Operand) (t : TypeId) (hop : o.op = Op.range t m) (k e : TypeId) (K : Keyed P k) (ht : P.underlying t = some (.map k e)) (b n : Nat) (f : Value → Option Value)
    (hm : a.eval m = .map (some b)) (h : FMap P w k b n f)
    (hK : ∀ w', FRange P w' k b w.heap.size n f (fun x => (f x).isSome) (w'.rangeLeft b w.heap.size) → w.grownBy w' none → w'.heap.size = w.heap.size + 1 → wpList P ops Q rest (a.put o.dst (.pointer (some ⟨w.heap.size, 0, none⟩))) w') :
    wpList P ops Q (o :: rest) a w := by
  obtain ⟨D, hown, hD⟩ := h
  refine wpList_range_own w hg m t hop k e K ht tokR b n D hm hown fun w' h1 h2 h3 => hK w' ⟨D, _, h1.left_eq ▸ h1, hD, fun key kl hkl => (hD.has key kl hkl).symm, fun key hl => by intro e; simp [e] at hl, fun kl hkl => has_key hown hkl⟩ h2 h3

/-- the step -/
theorem wp_next (hg : o.guard = none) (it : Operand) (hop : o.op = Op.next it false) (k : TypeId) (K : Keyed P k) {α β : Type} (mkK : α → Value) (mkV : β → Value) (b r n : Nat) (f : Value → Option Value)
    (invK : ∀ key, f key ≠ none → ∃ x, key = mkK x) (invV : ∀ key v, f key = some v → ∃ c, v = mkV c) (lf : Value → Bool) (cnt : Nat)
    (hit : a.eval it = .pointer (some ⟨r, 0, none⟩)) (h : FRange P w k b r n f lf cnt)
    (hDone : (∀ key, lf key = false) → wpList P ops Q rest (a.put o.dst (.tuple #[.bool false])) w)
    (hMore : ∀ (x : α) (c : β) (w' : World) (cnt' : Nat) (lf' : Value → Bool), lf (mkK x) = true → f (mkK x) = some (mkV c) → lf' (mkK x) = false → (∀ y, y ≠ mkK x → lf' y = lf y) → FRange P w' k b r n f lf' cnt' → cnt' < cnt →
      w.grownBy w' (some r) → w'.heap.size = w.heap.size → (Instr.entry (.pointer (some ⟨r, 0, none⟩))).run P w' = .ok (.tuple #[mkK x, mkV c]) w' → wpList P ops Q rest (a.put o.dst (.tuple #[.bool true, mkK x, mkV c])) w') :
    wpList P ops Q (o :: rest) a w := by
  obtain ⟨D, left, hr, hD, hl, hn, hk⟩ := h
  refine wpList_plain hg fun K' hK' => ?_
  unfold Oper.wp
  rcases hr.next K o.type with ⟨h0, hl0, hrun⟩ | ⟨key, v, kl, y, w', cnt', hkey, hlk, hv, hat, hrun, hrg, hlt, hgr, hsz, hen⟩
  · simp [execOp, hop, hit, hrun, Result.andThen]
    refine hK' _ _ (hDone fun key => ?_)
    cases e : lf key
    · rfl
    · have := hn key e
      obtain ⟨kl, hkl⟩ := hD.key key this
      rw [hl key kl hkl, hl0] at e; cases e
  · have hne := hn key (by rw [hl key kl hkey]; exact hlk)
    obtain ⟨u, hu⟩ := Option.ne_none_iff_exists'.1 hne
    have huv : v = u := by
      have := hD.val key kl u hkey hu .nil
      rw [hat] at this
      unfold tokR at hv; cases hv
      cases this; rfl
    subst huv
    obtain ⟨x, rfl⟩ := invK key hne
    obtain ⟨c, rfl⟩ := invV _ v hu
    simp [execOp, hop, hit, hrun, Result.andThen]
    refine hK' _ _ (hMore x c w' cnt' (fun z => open Classical in if z = mkK x then false else lf z) (by rw [hl _ kl hkey]; exact hlk) hu (by simp) (fun y hy => by simp [hy]) ⟨D, _, hrg, hD, fun key2 kl2 hk2 => ?_, fun key2 h2 => ?_, fun kl2 hk2 => ?_⟩ hlt hgr hsz hen)
    · by_cases e : key2 = mkK x
      · subst e
        rw [hkey] at hk2; cases hk2
        simp [WideAt.sameKey_self (K.key hkey)]
      · have hne2 : kl2 ≠ kl := fun e2 => e (K.inj (hk2 ▸ congrArg some e2) hkey)
        simp [e, hl key2 kl2 hk2, Maps.sameKey_ne hne2]
    · by_cases e : key2 = mkK x
      · simp [e] at h2
      · simp [e] at h2; exact hn key2 h2
    · simp at hk2; exact hk kl2 hk2.1
end

end Go.Proofs.YtdoaniccefdkaaaGreatDoor

/- expand.within, expand.all: which expansions may be. -/
namespace Go.Proofs.YtdoaniccefdkaaaGreatDoor
open Go.RowKit Tvf

/-- a slice of floats that reads as a list of words -/
def FSl (w : World) (v : Value) (l : List Nat) : Prop :=
  l.length ≤ 4294967296 ∧ (∀ x, x ∈ l → x < 2 ^ 64) ∧
  ((v = .slice none 0 0 ∧ l = []) ∨
    ∃ b off cap : Nat, v = .slice (some ⟨b, off, none⟩) l.length cap ∧ b < w.heap.size ∧ ∀ i, i < l.length → w.cell? ⟨b, off + i, none⟩ = some (.float .f64 (l.getD i 0)))

theorem FSl.below {w w' : World} {v : Value} {l : List Nat} (h : FSl w v l) (hb : Below w.heap.size w w') : FSl w' v l := by
  obtain ⟨h1, h2, h3⟩ := h
  refine ⟨h1, h2, ?_⟩
  rcases h3 with h3 | ⟨b, off, cap, e, hlt, hc⟩
  · exact Or.inl h3
  · exact Or.inr ⟨b, off, cap, e, Nat.lt_of_lt_of_le hlt hb.size, fun i hi => by rw [hb.cell (p := ⟨b, off + i, none⟩) hlt]; exact hc i hi⟩

theorem getD_mem {l : List Nat} {k : Nat} (h : k < l.length) : l.getD k 0 ∈ l := by
  rw [List.getD_eq_getElem?_getD, List.getElem?_eq_getElem h]; exact List.getElem_mem h

def withinB (x a b : Nat) : Bool := fge (x % 2 ^ 63) a && fle (x % 2 ^ 63) b

set_option maxRecDepth 100000 in
set_option maxHeartbeats 400000 in
theorem within_any (x a b : Nat) (h64 : x < 2 ^ 64) (w : World) :
    Calls Tryz.prog 281 #[.float .f64 x, .float .f64 a, .float .f64 b] w fun e w' => e = .returned (.bool (withinB x a b)) ∧ w = w' := by
  unfold withinB
  cases h1 : fge (x % 2 ^ 63) a
  all_goals
    go_enter Tryz.func281, Tryz.ntmps281
    go_wp2_with (go_at_call 184; refine (abs_any _ h64 _).mono ?_; rintro e w' ⟨rfl, rfl⟩)
    go_ret
    exact ⟨rfl, rfl⟩

theorem FSl.form {w : World} {v : Value} {l : List Nat} (h : FSl w v l) : ∃ ad cap, v = .slice ad l.length cap ∧
    (0 < l.length → ∃ b off : Nat, ad = some ⟨b, off, none⟩ ∧ b < w.heap.size ∧ ∀ i, i < l.length → w.cell? ⟨b, off + i, none⟩ = some (.float .f64 (l.getD i 0))) := by
  obtain ⟨_, _, ⟨h1, h2⟩ | ⟨b, off, cap, e, hb, hc⟩⟩ := h
  · subst h2; exact ⟨none, 0, h1, fun h => by simp at h⟩
  · exact ⟨_, cap, e, fun _ => ⟨b, off, rfl, hb, hc⟩⟩

open Classical in
/-- the word of a number's lowest digit -/
noncomputable def lowF (x : Nat) : Nat := if h : fin x ∧ fval x ≠ 0 then Classical.choose (low_exact x h.1 h.2) else 0

theorem lowF_spec {x : Nat} (hx : fin x) (h0 : fval x ≠ 0) : (∀ w, Calls Tryz.prog 322 #[.float .f64 x] w fun e w' => e = .returned (.float .f64 (lowF x)) ∧ w = w') ∧ fin (lowF x) ∧ LowOf (fval x) (fval (lowF x)) := by
  unfold lowF
  rw [dif_pos ⟨hx, h0⟩]
  exact Classical.choose_spec (low_exact x hx h0)

noncomputable def goodAt (l : List Nat) (a b j : Nat) : Bool := withinB (l.getD j 0) a b && (decide (j = 0) || !fge (l.getD (j - 1) 0 % 2 ^ 63) (lowF (l.getD j 0)))
noncomputable def allB (l : List Nat) (a b : Nat) : Bool := decide (l.length ≤ 64) && (List.range l.length).all (goodAt l a b)

theorem all_false {l : List Nat} {a b j : Nat} (hj : j < l.length) (h : goodAt l a b j = false) : allB l a b = false := by
  unfold allB
  rw [Bool.and_eq_false_iff]
  right
  rw [List.all_eq_false]
  exact ⟨j, by simpa using hj, by simp [h]⟩

theorem all_true {l : List Nat} {a b : Nat} (hl : l.length ≤ 64) (h : ∀ j, j < l.length → goodAt l a b j = true) : allB l a b = true := by
  unfold allB
  rw [Bool.and_eq_true]
  refine ⟨by simpa using hl, ?_⟩
  rw [List.all_eq_true]
  intro j hj
  exact h j (by simpa using hj)

theorem nz_of_within {x a b : Nat} (hx : fin x) (ha : fin a) (ha0 : 0 < fval a) (h : withinB x a b = true) : fval x ≠ 0 := by
  unfold withinB at h
  rw [Bool.and_eq_true] at h
  have h1 := h.1
  rw [fge_val (fin_abs hx) ha, fval_abs] at h1
  have := of_decide_eq_true h1
  omega

set_option maxRecDepth 100000 in
set_option maxHeartbeats 1000000 in
theorem all_walk (l : List Nat) (v : Value) (a b : Nat) (ha : fin a) (ha0 : 0 < fval a) (hl : ∀ x, x ∈ l → fin x) (w : World) (hv : FSl w v l) :
    Calls Tryz.prog 282 #[v, .float .f64 a, .float .f64 b] w fun e w' => e = .returned (.bool (allB l a b)) ∧ w = w' := by
  have hv1 := hv.1
  obtain ⟨ad, cap, rfl, hcell⟩ := hv.form
  clear hv
  by_cases h64 : l.length ≤ 64
  · have HG : Hid (∀ j, j < l.length → goodAt l a b j = false → allB l a b = false) := fun j h1 h2 => all_false h1 h2
    have HT : Hid ((∀ j, j < l.length → goodAt l a b j = true) → allB l a b = true) := fun h => all_true h64 h
    have HC := Lib.hid hcell
    have HL := Lib.hid hl
    have HA := Lib.hid ha
    have HA0 := Lib.hid ha0
    clear hcell hl ha ha0
    go_enter Tryz.func282, Tryz.ntmps282
    go_wp2
    go_loop [14] (fun i => ∃ k : Nat, k ≤ l.length ∧ i = .int .i64 k ∧ Hid (∀ j, j < k → goodAt l a b j = true)) (fun i => l.length - (intOf i).toNat)
    case atStart => exact ⟨0, by omega, rfl, fun j hj => by omega⟩
    case round =>
      obtain ⟨k, hk, rfl, HK⟩ := hrel
      by_cases hlt : k < l.length
      · obtain ⟨bb, off, rfl, hbb, hc⟩ := HC.out (by omega)
        have hck := hc k hlt
        have hx := HL.out (l.getD k 0) (getD_mem hlt)
        have hckp : 0 < k → w.cell? ⟨bb, off + (k - 1), none⟩ = some (.float .f64 (l.getD (k - 1) 0)) := fun _ => hc (k - 1) (by omega)
        have hxp : 0 < k → fin (l.getD (k - 1) 0) := fun _ => HL.out _ (getD_mem (by omega))
        clear hc
        have hx1 := Lib.hid hx.1
        have hgd : goodAt l a b k = (withinB (l.getD k 0) a b && (decide (k = 0) || !fge (l.getD (k - 1) 0 % 2 ^ 63) (lowF (l.getD k 0)))) := rfl
        have HX := Lib.hid hx
        clear hx
        generalize l.getD k 0 = x at *
        cases hw1 : withinB x a b
        · -- it is not of the magnitude
          have HF := Lib.hid (HG.out k hlt (by rw [hgd, hw1]; rfl))
          clear hgd hckp hxp
          go_wp2_with (go_at_call 281; refine (within_any _ _ _ hx1.out _).mono ?_; rintro e w' ⟨rfl, rfl⟩)
          go_ret
          exact ⟨by rw [HF.out]; rfl, rfl⟩
        · by_cases hk0 : k = 0
          · subst hk0
            rw [Nat.add_zero] at hck
            have HF := Lib.hid (show ∀ j, j < 0 + 1 → goodAt l a b j = true from fun j hj => by
              have : j = 0 := by omega
              subst this; rw [hgd, hw1]; rfl)
            clear hgd hckp hxp
            go_wp2_with (go_at_call 281; refine (within_any _ _ _ hx1.out _).mono ?_; rintro e w' ⟨rfl, rfl⟩)
            go_round
            case rel => exact ⟨0 + 1, by omega, by go_num, HF⟩
            case measure => simp [intOf]; omega
          · have hcp := hckp (by omega)
            have hxp := hxp (by omega)
            have hxp1 := Lib.hid hxp.1
            have hlow := (lowF_spec HX.out (nz_of_within HX.out HA.out HA0.out hw1)).1
            have HLO := Lib.hid hlow
            clear hckp hlow hxp
            generalize l.getD (k - 1) 0 = y at *
            have hkd : decide (k = 0) = false := by simpa using hk0
            rw [hw1, hkd] at hgd
            have hi1 : ((k : Int) - 1).toNat = k - 1 := by omega
            cases hw2 : fge (y % 2 ^ 63) (lowF x)
            · have HF := Lib.hid (show ∀ j, j < k + 1 → goodAt l a b j = true from fun j hj => by
                by_cases hjk : j = k
                · subst hjk; rw [hgd, hw2]; rfl
                · exact HK.out j (by omega))
              clear hgd hkd
              go_wp2_with (first | (go_at_call 281; refine (within_any _ _ _ hx1.out _).mono ?_; rintro e w' ⟨rfl, rfl⟩) | (go_at_call 184; refine (abs_any _ hxp1.out _).mono ?_; rintro e w' ⟨rfl, rfl⟩) | (go_at_call 322; refine (HLO.out _).mono ?_; rintro e w' ⟨rfl, rfl⟩))
              go_round
              case rel => exact ⟨k + 1, by omega, by go_num, HF⟩
              case measure => simp [intOf]; omega
            · have HF := Lib.hid (HG.out k hlt (by rw [hgd, hw2]; rfl))
              clear hgd hkd
              go_wp2_with (first | (go_at_call 281; refine (within_any _ _ _ hx1.out _).mono ?_; rintro e w' ⟨rfl, rfl⟩) | (go_at_call 184; refine (abs_any _ hxp1.out _).mono ?_; rintro e w' ⟨rfl, rfl⟩) | (go_at_call 322; refine (HLO.out _).mono ?_; rintro e w' ⟨rfl, rfl⟩))
              go_ret
              exact ⟨by rw [HF.out]; rfl, rfl⟩
      · have HF := Lib.hid (HT.out (fun j hj => HK.out j (by omega)))
        go_wp2
        go_ret
        exact ⟨by rw [HF.out]; rfl, rfl⟩
  · have HF : Hid (allB l a b = false) := by unfold Hid allB; rw [show decide (l.length ≤ 64) = false by simpa using h64]; rfl
    have h65 : 64 < l.length := by omega
    clear hcell hl ha ha0 h64
    go_enter Tryz.func282, Tryz.ntmps282
    go_wp2
    go_ret
    exact ⟨by rw [HF.out]; rfl, rfl⟩

end Go.Proofs.YtdoaniccefdkaaaGreatDoor

/- eft.Sum, eft.Diff. -/
namespace Go.Proofs.YtdoaniccefdkaaaGreatDoor
open Go.RowKit Tvf

theorem rn_le_pow {z : Int} {k : Nat} (h : z.natAbs ≤ 2 ^ k) : (rn z).natAbs ≤ 2 ^ k := by
  have hr : rep ((2 : Int) ^ k) := by
    have := rep_of (m := 1) k (by decide); rw [Int.one_mul] at this; exact this
  have cast : ((2 ^ k : Nat) : Int) = (2 : Int) ^ k := by simp
  have m1 := rn_mono (a := z) (b := 2 ^ k) (by rw [← cast]; omega)
  have m2 := rn_mono (a := -(2 ^ k)) (b := z) (by rw [← cast]; omega)
  rw [rn_rep (rep_neg hr)] at m2
  rw [rn_rep hr] at m1
  rw [← cast] at m1 m2
  omega

def sumHi (a b : Nat) : Nat := fadd a b
def sumLo (a b : Nat) : Nat := fadd (fsub a (fsub (fadd a b) (fsub (fadd a b) a))) (fsub b (fsub (fadd a b) a))
/-- neither infinite nor very great -/
def tame (x : Nat) : Prop := fin x ∧ (fval x).natAbs ≤ 2 ^ (unitE + 1000)

theorem nsub_pow {x y : Int} {i j k : Nat} (hx : x.natAbs ≤ 2 ^ i) (hy : y.natAbs ≤ 2 ^ j) (hi : i < k) (hj : j < k) : (x - y).natAbs ≤ 2 ^ k := by
  have e : 2 ^ k = 2 * 2 ^ (k - 1) := by rw [show k = k - 1 + 1 by omega, Nat.pow_succ]; simp; omega
  have h1 : 2 ^ i ≤ 2 ^ (k - 1) := Nat.pow_le_pow_right (by omega) (by omega)
  have h2 : 2 ^ j ≤ 2 ^ (k - 1) := Nat.pow_le_pow_right (by omega) (by omega)
  omega
theorem nadd_pow {x y : Int} {i j k : Nat} (hx : x.natAbs ≤ 2 ^ i) (hy : y.natAbs ≤ 2 ^ j) (hi : i < k) (hj : j < k) : (x + y).natAbs ≤ 2 ^ k := by
  have := nsub_pow (y := -y) hx (by rw [Int.natAbs_neg]; exact hy) hi hj
  rwa [show x - -y = x + y by omega] at this

theorem sub_step {x y i j k : Nat} (hx : fin x) (hy : fin y) (bx : (fval x).natAbs ≤ 2 ^ i) (bY : (fval y).natAbs ≤ 2 ^ j) (hi : i < k) (hj : j < k) (hk : k < top) :
    fin (fsub x y) ∧ fval (fsub x y) = rn (fval x - fval y) ∧ (fval (fsub x y)).natAbs ≤ 2 ^ k := by
  have b := nsub_pow bx bY hi hj
  obtain ⟨c1, c2⟩ := fsub_val hx hy (inReach_le b hk)
  exact ⟨c1, c2, by rw [c2]; exact rn_le_pow b⟩
theorem add_step {x y i j k : Nat} (hx : fin x) (hy : fin y) (bx : (fval x).natAbs ≤ 2 ^ i) (bY : (fval y).natAbs ≤ 2 ^ j) (hi : i < k) (hj : j < k) (hk : k < top) :
    fin (fadd x y) ∧ fval (fadd x y) = rn (fval x + fval y) ∧ (fval (fadd x y)).natAbs ≤ 2 ^ k := by
  have b := nadd_pow bx bY hi hj
  obtain ⟨c1, c2⟩ := fadd_val hx hy (inReach_le b hk)
  exact ⟨c1, c2, by rw [c2]; exact rn_le_pow b⟩

theorem sum_fin {a b : Nat} (ha : tame a) (hb : tame b) :
    fin (fadd a b) ∧ fin (fsub (fadd a b) a) ∧ fin (fsub (fadd a b) (fsub (fadd a b) a)) ∧ fin (fsub a (fsub (fadd a b) (fsub (fadd a b) a))) ∧ fin (fsub b (fsub (fadd a b) a)) ∧ fin (sumLo a b) ∧
      fval (sumHi a b) = rn (fval a + fval b) ∧ fval (sumLo a b) = fval a + fval b - rn (fval a + fval b) := by
  obtain ⟨ha, ha1⟩ := ha
  obtain ⟨hb, hb1⟩ := hb
  have two := two_sum (rep_fval a) (rep_fval b)
  have hK5 : unitE + 1000 + 5 < top := by decide
  unfold sumHi sumLo
  generalize unitE + 1000 = K at *
  obtain ⟨s1, s2, s3⟩ := add_step (k := K + 1) ha hb ha1 hb1 (by simp) (by simp) (Nat.lt_trans (by simp) hK5)
  obtain ⟨c1, c2, c3⟩ := sub_step (k := K + 2) s1 ha s3 ha1 (by simp) (by simp) (Nat.lt_trans (by simp) hK5)
  obtain ⟨d1, d2, d3⟩ := sub_step (k := K + 3) s1 c1 s3 c3 (by simp) (by simp) (Nat.lt_trans (by simp) hK5)
  obtain ⟨e1, e2, e3⟩ := sub_step (k := K + 4) ha d1 ha1 d3 (by simp) (by simp) (Nat.lt_trans (by simp) hK5)
  obtain ⟨f1, f2, f3⟩ := sub_step (k := K + 4) hb c1 hb1 c3 (by simp) (by simp) (Nat.lt_trans (by simp) hK5)
  obtain ⟨g1, g2, g3⟩ := add_step (k := K + 5) e1 f1 e3 f3 (by simp) (by simp) hK5
  refine ⟨s1, c1, d1, e1, f1, g1, s2, ?_⟩
  rw [g2, e2, f2, d2, c2, s2]
  exact two

theorem fin_c1000 : fin 9110782046170513408 := by unfold fin; omega
theorem fval_c1000 : fval 9110782046170513408 = 2 ^ (unitE + 1000) :=
  fval_pow (F := 2023) (by unfold fin; omega) (by omega) (by omega) (by omega) (by omega) rfl

theorem tame_le {x : Nat} (h : tame x) : fle (x % 2 ^ 63) 9110782046170513408 = true := by
  rw [fle_val (fin_abs h.1) fin_c1000, fval_abs, fval_c1000]
  have := h.2
  have cast : ((2 ^ (unitE + 1000) : Nat) : Int) = (2 : Int) ^ (unitE + 1000) := by simp
  rw [← cast]
  simp; omega

set_option maxRecDepth 100000 in
set_option maxHeartbeats 400000 in
theorem tame_walk (x : Nat) (h64 : x < 2 ^ 64) (w : World) :
    Calls Tryz.prog 299 #[.float .f64 x] w fun e w' => e = .returned (.bool (fle (x % 2 ^ 63) 9110782046170513408)) ∧ w = w' := by
  go_enter Tryz.func299, Tryz.ntmps299
  go_wp2_with (go_at_call 184; refine (abs_any _ h64 _).mono ?_; rintro e w' ⟨rfl, rfl⟩)
  go_ret
  exact ⟨rfl, rfl⟩

set_option maxRecDepth 100000 in
set_option maxHeartbeats 1000000 in
theorem sum_walk (a b : Nat) (ha : tame a) (hb : tame b) (w : World) :
    Calls Tryz.prog 253 #[.float .f64 a, .float .f64 b] w fun e w' => e = .returned (.tuple #[.float .f64 (sumHi a b), .float .f64 (sumLo a b)]) ∧ Below w.heap.size w w' := by
  obtain ⟨s1, s2, s3, s4, s5, s6, _, _⟩ := sum_fin ha hb
  have ta := tame_le ha
  have tb := tame_le hb
  have ha1 := ha.1
  have hb1 := hb.1
  have ha2 := Lib.hid ha1.1
  have hb2 := Lib.hid hb1.1
  clear ha hb
  go_enter Tryz.func253, Tryz.ntmps253
  go_wp2_with (first | (go_at_call 299; (first | (with_reducible refine (tame_walk a ha2.out _).mono ?_) | (with_reducible refine (tame_walk b hb2.out _).mono ?_)); rintro e w' ⟨rfl, rfl⟩) | go_in)
  go_ret2
  exact ⟨rfl, (Below.refl _ _).alloc (Nat.le_refl _) _⟩

end Go.Proofs.YtdoaniccefdkaaaGreatDoor
