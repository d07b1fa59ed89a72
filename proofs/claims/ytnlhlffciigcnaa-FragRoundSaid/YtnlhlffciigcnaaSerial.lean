/- Contracts of the plain functions of layer 2 (serial) and of its reference, over this seat's translation: what each call returns, the world left as it was. -/
import Derived.Test.YtnlhlffciigcnaaProg
import Derived.WalkKit
import Derived.ProofKit
import Derived.OpenShut
import Derived.Deep.QuietTactic
import Derived.BigQuiet
namespace Go.Proofs.Ytnlhlffciigcnaa.Ser
open Go.ChangeShapes Go.WideShapes Go.ChangeAt Go.RowKit

theorem u16_wrap (x : Int) : IntKind.u16.wrap x = x % 65536 := rfl
theorem w64_small {x : Int} (h : 0 ≤ x) (h2 : x < 4294967296) : wrap64 x = x := by unfold wrap64; omega
theorem far16_val (x : Int) : wrap64 (IntKind.u16.wrap x) = x % 65536 := by rw [u16_wrap]; exact w64_small (by omega) (by omega)
theorem ret_int {k : IntKind} {a b : Int} (h : a = b) : Ending.returned (.int k a) = .returned (.int k b) := by rw [h]
theorem ret_bool {a b : Bool} (h : a = b) : Ending.returned (.bool a) = .returned (.bool b) := by rw [h]

def aheadB (a b M : Int) : Bool := decide (¬ a = b ∧ (b - a) % M < M / 2)
theorem aheadB_self (a b M : Int) (h : a = b) : aheadB a b M = false := by simp [aheadB, h]
theorem aheadB_ne (a b M : Int) (h : ¬ a = b) : aheadB a b M = decide ((b - a) % M < M / 2) := by simp [aheadB, h]
def laterV (a b M : Int) : Int := if aheadB a b M = true then b else a
theorem laterV_lo (a b M : Int) (ha : 0 ≤ a) (hb : 0 ≤ b) : 0 ≤ laterV a b M := by unfold laterV; split <;> assumption
theorem laterV_hi (a b M : Int) (ha : a < M) (hb : b < M) : laterV a b M < M := by unfold laterV; split <;> assumption
theorem half_val32 : (bits BinOp.xor IntKind.u32 IntKind.u32.max 0).tdiv 2 % 4294967296 + 1 = 2147483648 := by decide +kernel
theorem half_val16 : wrap64 (wrap64 (IntKind.u16.wrap ((bits BinOp.xor IntKind.u16 IntKind.u16.max 0).tdiv 2)) + 1) = 32768 := by decide +kernel
theorem far0_val (M a b : Int) (hM : 0 < M) (hM2 : M ≤ 4294967296) (ha : 0 ≤ a) (ha2 : a < M) (hb : 0 ≤ b) (hb2 : b < M) :
    (wrap64 ((b - a).tmod M + M)).tmod M = (b - a) % M := by
  have h1 : (b - a).tmod M = b - a := by
    by_cases h : 0 ≤ b - a
    · exact Int.tmod_eq_of_lt h (by omega)
    · have := Int.neg_tmod (a := a - b) (b := M)
      rw [show -(a - b) = b - a from by omega] at this
      rw [this, Int.tmod_eq_of_lt (by omega) (by omega)]; omega
  rw [h1]
  have h2 : wrap64 (b - a + M) = b - a + M := by unfold wrap64; omega
  rw [h2, Int.tmod_eq_emod_of_nonneg (by omega), Int.add_emod_right]
theorem step0_val (M a n : Int) (hM : 0 < M) (hM2 : M ≤ 4294967296) (ha : 0 ≤ a) (ha2 : a < M) :
    (wrap64 (wrap64 (a + n.tmod M) + M)).tmod M = (a + n) % M := by
  have e : n.tmod M = n - M * n.tdiv M := by have := Int.tmod_add_mul_tdiv n M; omega
  have h1 : -M < n.tmod M := by have := Int.lt_tmod_of_pos n hM; omega
  have h2 : n.tmod M < M := Int.tmod_lt_of_pos n hM
  have w1 : wrap64 (a + n.tmod M) = a + n.tmod M := by unfold wrap64; omega
  have w2 : wrap64 (a + n.tmod M + M) = a + n.tmod M + M := by unfold wrap64; omega
  rw [w1, w2, Int.tmod_eq_emod_of_nonneg (by omega), Int.add_emod_right, e]
  rw [show a + (n - M * n.tdiv M) = (a + n) + M * (-(n.tdiv M)) by rw [Int.mul_neg]; omega, Int.add_mul_emod_self_left]

theorem step16_val (a n : Int) : IntKind.u16.wrap (a + IntKind.u16.wrap n) = (a + n) % 65536 := by rw [u16_wrap, u16_wrap]; omega

theorem far0 (M a b : Int) (hM : 0 < M) (hM2 : M ≤ 4294967296) (ha : 0 ≤ a) (ha2 : a < M) (hb : 0 ≤ b) (hb2 : b < M) (w : World) :
    Calls Try.prog 14 #[.int .i64 a, .int .i64 b, .int .i64 M] w fun e w' => e = .returned (.int .i64 ((b - a) % M)) ∧ w = w' := by
  have hM0 : ¬ M = 0 := by omega
  have hM1 : ¬ M = -1 := by omega
  go_enter Try.func14, Try.ntmps14
  go_wp2
  go_ret
  exact ⟨ret_int (far0_val M a b hM hM2 ha ha2 hb hb2), rfl⟩
theorem ne_of_range (M a b : Int) (hM : 0 < M) (ha : 0 ≤ a) (ha2 : a < M) (hb : 0 ≤ b) (hb2 : b < M) (h : ¬ a = b) : ((b - a) % M != 0) = true := by
  simp
  intro h2
  obtain ⟨k, hk⟩ := Int.dvd_of_emod_eq_zero h2
  have : k = 0 := by
    rcases Int.lt_trichotomy k 0 with h' | h' | h'
    · have : M * k ≤ M * (-1) := Int.mul_le_mul_of_nonneg_left (by omega) (by omega)
      omega
    · exact h'
    · have : M * 1 ≤ M * k := Int.mul_le_mul_of_nonneg_left (by omega) (by omega)
      omega
  subst this
  omega
theorem ahead0 (M a b : Int) (hM : 0 < M) (hM2 : M ≤ 4294967296) (ha : 0 ≤ a) (ha2 : a < M) (hb : 0 ≤ b) (hb2 : b < M) (w : World) :
    Calls Try.prog 17 #[.int .i64 a, .int .i64 b, .int .i64 M] w fun e w' => e = .returned (.bool (aheadB a b M)) ∧ w = w' := by
  by_cases h : a = b
  · rw [aheadB_self a b _ h]
    have h : ((b - a) % M != 0) = false := by subst h; simp
    go_enter Try.func17, Try.ntmps17
    go_wp2_with (first | (go_at_call 14; refine (far0 _ _ _ (by omega) (by omega) (by omega) (by omega) (by omega) (by omega) _).mono ?_; rintro e w' ⟨rfl, rfl⟩))
    go_ret
    exact ⟨rfl, rfl⟩
  · rw [aheadB_ne a b _ h]
    have h := ne_of_range M a b hM ha ha2 hb hb2 h
    go_enter Try.func17, Try.ntmps17
    go_wp2_with (first | (go_at_call 14; refine (far0 _ _ _ (by omega) (by omega) (by omega) (by omega) (by omega) (by omega) _).mono ?_; rintro e w' ⟨rfl, rfl⟩))
    go_ret
    exact ⟨rfl, rfl⟩
theorem later0 (M a b : Int) (hM : 0 < M) (hM2 : M ≤ 4294967296) (ha : 0 ≤ a) (ha2 : a < M) (hb : 0 ≤ b) (hb2 : b < M) (w : World) :
    Calls Try.prog 21 #[.int .i64 a, .int .i64 b, .int .i64 M] w fun e w' => e = .returned (.int .i64 (laterV a b M)) ∧ w = w' := by
  unfold laterV
  go_enter Try.func21, Try.ntmps21
  go_wp2_with (first | (go_at_call 17; refine (ahead0 _ _ _ (by omega) (by omega) (by omega) (by omega) (by omega) (by omega) _).mono ?_; rintro e w' ⟨rfl, rfl⟩))
  all_goals
    go_ret
    exact ⟨ret_int (by simp [*]), rfl⟩
theorem step0 (M a n : Int) (hM : 0 < M) (hM2 : M ≤ 4294967296) (ha : 0 ≤ a) (ha2 : a < M) (w : World) :
    Calls Try.prog 19 #[.int .i64 a, .int .i64 n, .int .i64 M] w fun e w' => e = .returned (.int .i64 ((a + n) % M)) ∧ w = w' := by
  have hM0 : ¬ M = 0 := by omega
  have hM1 : ¬ M = -1 := by omega
  go_enter Try.func19, Try.ntmps19
  go_wp2
  go_ret
  exact ⟨ret_int (step0_val M a n hM hM2 ha ha2), rfl⟩

theorem far32 (a b : Int) (w : World) :
    Calls Try.prog 15 #[.int .u32 a, .int .u32 b] w fun e w' => e = .returned (.int .i64 ((b - a) % 4294967296)) ∧ w = w' := by
  go_enter Try.func15, Try.ntmps15
  go_wp2
  go_ret
  exact ⟨rfl, rfl⟩
theorem half32 (w : World) :
    Calls Try.prog 62 #[] w fun e w' => e = .returned (.int .i64 2147483648) ∧ w = w' := by
  have h : ¬ IntKind.u32.signed = true := by decide
  go_enter Try.func62, Try.ntmps62
  go_wp2
  go_ret
  exact ⟨ret_int half_val32, rfl⟩
theorem ahead32 (a b : Int) (w : World) :
    Calls Try.prog 16 #[.int .u32 a, .int .u32 b] w fun e w' => e = .returned (.bool (aheadB a b 4294967296)) ∧ w = w' := by
  by_cases h : a = b
  · rw [aheadB_self a b _ h]
    have h : (a != b) = false := by simp [h]
    go_enter Try.func16, Try.ntmps16
    go_wp2_with (first | (go_at_call 15; refine (far32 _ _ _).mono ?_; rintro e w' ⟨rfl, rfl⟩) | (go_at_call 62; refine (half32 _).mono ?_; rintro e w' ⟨rfl, rfl⟩))
    go_ret
    exact ⟨rfl, rfl⟩
  · rw [aheadB_ne a b _ h]
    have h : (a != b) = true := by simp [h]
    go_enter Try.func16, Try.ntmps16
    go_wp2_with (first | (go_at_call 15; refine (far32 _ _ _).mono ?_; rintro e w' ⟨rfl, rfl⟩) | (go_at_call 62; refine (half32 _).mono ?_; rintro e w' ⟨rfl, rfl⟩))
    go_ret
    exact ⟨rfl, rfl⟩
theorem later32 (a b : Int) (w : World) :
    Calls Try.prog 20 #[.int .u32 a, .int .u32 b] w fun e w' => e = .returned (.int .u32 (laterV a b 4294967296)) ∧ w = w' := by
  unfold laterV
  go_enter Try.func20, Try.ntmps20
  go_wp2_with (first | (go_at_call 16; refine (ahead32 _ _ _).mono ?_; rintro e w' ⟨rfl, rfl⟩))
  all_goals
    go_ret
    exact ⟨ret_int (by simp [*]), rfl⟩
theorem within32 (a f n : Int) (w : World) :
    Calls Try.prog 22 #[.int .u32 a, .int .u32 f, .int .i64 n] w fun e w' => e = .returned (.bool (decide ((a - f) % 4294967296 < n))) ∧ w = w' := by
  go_enter Try.func22, Try.ntmps22
  go_wp2_with (first | (go_at_call 15; refine (far32 _ _ _).mono ?_; rintro e w' ⟨rfl, rfl⟩))
  go_ret
  exact ⟨rfl, rfl⟩
theorem step32 (a n : Int) (w : World) :
    Calls Try.prog 18 #[.int .u32 a, .int .i64 n] w fun e w' => e = .returned (.int .u32 ((a + n) % 4294967296)) ∧ w = w' := by
  go_enter Try.func18, Try.ntmps18
  go_wp2
  go_ret
  exact ⟨ret_int (by omega), rfl⟩

theorem far16 (a b : Int) (w : World) :
    Calls Try.prog 61 #[.int .u16 a, .int .u16 b] w fun e w' => e = .returned (.int .i64 ((b - a) % 65536)) ∧ w = w' := by
  go_enter Try.func61, Try.ntmps61
  go_wp2
  go_ret
  exact ⟨ret_int (far16_val _), rfl⟩
theorem half16 (w : World) :
    Calls Try.prog 87 #[] w fun e w' => e = .returned (.int .i64 32768) ∧ w = w' := by
  have h : ¬ IntKind.u16.signed = true := by decide
  go_enter Try.func87, Try.ntmps87
  go_wp2
  go_ret
  exact ⟨ret_int half_val16, rfl⟩
theorem ahead16 (a b : Int) (w : World) :
    Calls Try.prog 60 #[.int .u16 a, .int .u16 b] w fun e w' => e = .returned (.bool (aheadB a b 65536)) ∧ w = w' := by
  by_cases h : a = b
  · rw [aheadB_self a b _ h]
    have h : (a != b) = false := by simp [h]
    go_enter Try.func60, Try.ntmps60
    go_wp2_with (first | (go_at_call 61; refine (far16 _ _ _).mono ?_; rintro e w' ⟨rfl, rfl⟩) | (go_at_call 87; refine (half16 _).mono ?_; rintro e w' ⟨rfl, rfl⟩))
    go_ret
    exact ⟨rfl, rfl⟩
  · rw [aheadB_ne a b _ h]
    have h : (a != b) = true := by simp [h]
    go_enter Try.func60, Try.ntmps60
    go_wp2_with (first | (go_at_call 61; refine (far16 _ _ _).mono ?_; rintro e w' ⟨rfl, rfl⟩) | (go_at_call 87; refine (half16 _).mono ?_; rintro e w' ⟨rfl, rfl⟩))
    go_ret
    exact ⟨rfl, rfl⟩

theorem farSh (a b : Int) (w : World) :
    Calls Try.prog 23 #[.int .u16 a, .int .u16 b] w fun e w' => e = .returned (.int .i64 ((b - a) % 65536)) ∧ w = w' := by
  go_enter Try.func23, Try.ntmps23
  go_wp2
  go_ret
  exact ⟨ret_int (far16_val _), rfl⟩
theorem halfSh (w : World) :
    Calls Try.prog 63 #[] w fun e w' => e = .returned (.int .i64 32768) ∧ w = w' := by
  have h : ¬ IntKind.u16.signed = true := by decide
  go_enter Try.func63, Try.ntmps63
  go_wp2
  go_ret
  exact ⟨ret_int half_val16, rfl⟩
theorem aheadSh (a b : Int) (w : World) :
    Calls Try.prog 24 #[.int .u16 a, .int .u16 b] w fun e w' => e = .returned (.bool (aheadB a b 65536)) ∧ w = w' := by
  by_cases h : a = b
  · rw [aheadB_self a b _ h]
    have h : (a != b) = false := by simp [h]
    go_enter Try.func24, Try.ntmps24
    go_wp2_with (first | (go_at_call 23; refine (farSh _ _ _).mono ?_; rintro e w' ⟨rfl, rfl⟩) | (go_at_call 63; refine (halfSh _).mono ?_; rintro e w' ⟨rfl, rfl⟩))
    go_ret
    exact ⟨rfl, rfl⟩
  · rw [aheadB_ne a b _ h]
    have h : (a != b) = true := by simp [h]
    go_enter Try.func24, Try.ntmps24
    go_wp2_with (first | (go_at_call 23; refine (farSh _ _ _).mono ?_; rintro e w' ⟨rfl, rfl⟩) | (go_at_call 63; refine (halfSh _).mono ?_; rintro e w' ⟨rfl, rfl⟩))
    go_ret
    exact ⟨rfl, rfl⟩
theorem laterSh (a b : Int) (w : World) :
    Calls Try.prog 26 #[.int .u16 a, .int .u16 b] w fun e w' => e = .returned (.int .u16 (laterV a b 65536)) ∧ w = w' := by
  unfold laterV
  go_enter Try.func26, Try.ntmps26
  go_wp2_with (first | (go_at_call 24; refine (aheadSh _ _ _).mono ?_; rintro e w' ⟨rfl, rfl⟩))
  all_goals
    go_ret
    exact ⟨ret_int (by simp [*]), rfl⟩
theorem withinSh (a f n : Int) (w : World) :
    Calls Try.prog 27 #[.int .u16 a, .int .u16 f, .int .i64 n] w fun e w' => e = .returned (.bool (decide ((a - f) % 65536 < n))) ∧ w = w' := by
  go_enter Try.func27, Try.ntmps27
  go_wp2_with (first | (go_at_call 23; refine (farSh _ _ _).mono ?_; rintro e w' ⟨rfl, rfl⟩))
  go_ret
  exact ⟨rfl, rfl⟩
theorem stepSh (a n : Int) (w : World) :
    Calls Try.prog 25 #[.int .u16 a, .int .i64 n] w fun e w' => e = .returned (.int .u16 ((a + n) % 65536)) ∧ w = w' := by
  go_enter Try.func25, Try.ntmps25
  go_wp2
  go_ret
  exact ⟨ret_int (step16_val _ _), rfl⟩

theorem ahead_yes : aheadB 65535 2 65536 = true := by decide +kernel
theorem ahead_no : aheadB 2 65535 65536 = false := by decide +kernel
theorem alive (w : World) : Calls Try.prog 13 #[] w fun e w' => e = .returned (.bool true) ∧ w = w' := by
  have h1 := ahead_yes
  have h2 := ahead_no
  go_enter Try.func13, Try.ntmps13
  go_wp2_with (first | (go_at_call 60; refine (ahead16 _ _ _).mono ?_; rintro e w' ⟨rfl, rfl⟩) | (go_at_call 61; refine (far16 _ _ _).mono ?_; rintro e w' ⟨rfl, rfl⟩))
  go_ret
  exact ⟨rfl, rfl⟩
end Go.Proofs.Ytnlhlffciigcnaa.Ser
