import Derived.Test.YtnlhlffciigcnaaFragLaw
import Derived.Test.YtnlhlffciigcnaaLeftWalk
import Derived.Outline
import Derived.Lib.SmallJoins
namespace Go.Proofs.Ytnlhlffciigcnaa.QFrag
open Go.RowKit Go.Proofs.YtnlhlffciigcnaaW.PrintWords Go.Proofs.YtnlhlffciigcnaaW.PrintLast Go.Proofs.YtnlhlffciigcnaaW.PrintMore Go.ChangeShapes Go.WideShapes Go.ChangeAt Go.Shelf
open Base (hid slice_of_row ret_bool cell_new1 cell_old1 froz_new1 froz_old1)
open Go.Joins (cell_of_block unfrozen_of_block)
attribute [local go_sem] Oper.semAt_some
set_option linter.unusedVariables false
theorem messages_calls (A0 : Option Addr) (c0 : Nat) (A1 : Option Addr) (c1 : Nat) (l : List S77) (w : World) (hr0 : Kd.C k77 w A0 l.length l) (hr1 : Kd.C k77 w A1 l.length l) :
    Calls Try.prog 49 #[.slice A0 l.length c0, .slice A1 l.length c1] w fun e w' => e = .returned (.bool true) ∧ Drawn0 w w' := by
  have hu77 := Try.underlying77
  have HR0 := hid hr0
  have HR1 := hid hr1
  have hl : l.length ≤ 9223372036854775807 := by have h1 := hr0.1; have h2 := hr0.2.1; omega
  clear hr0 hr1
  go_enter Try.func49, Try.ntmps49
  go_wp2
  go_loopw [13] (fun i wr => ∃ k : Nat, k ≤ l.length ∧ i = .int .i64 k ∧ Hid (Drawn0 w wr)) (fun v _ => l.length - (intOf v).toNat)
  case atStart => exact ⟨0, Nat.zero_le _, rfl, hid (Drawn0.refl _)⟩
  case round =>
    obtain ⟨k, hk, rfl, HD⟩ := hrel
    by_cases hlt : k < l.length
    · obtain ⟨m, rfl⟩ := HD.out
      clear HD
      have K0 := Kd.C_drewN HR0.out m
      have K1 := Kd.C_drewN HR1.out m
      obtain ⟨wd, hwd⟩ : ∃ wd : World, wd = w.drewN m := ⟨_, rfl⟩
      rw [← hwd] at K0 K1 ⊢
      obtain ⟨ad, A2, c2, rfl, h0, h1, h2, hl2, hi2⟩ := at_T77 K0 (k : Int) (by omega) (by omega)
      obtain ⟨bd, B2, d2, rfl, g0, g1, g2, gl2, gi2⟩ := at_T77 K1 (k : Int) (by omega) (by omega)
      clear K0 K1
      have HWD := hid hwd
      clear hwd
      rw [Int.toNat_natCast] at h0 h1 h2 g0 g1 g2
      have hcv := fun n => Kd.C_string (P := Try.prog) (A := A2) (c := c2) Try.underlying75 Try.underlying5 Try.underlying9 (Kd.C_drewN hi2 n)
      have gcv := fun n => Kd.C_string (P := Try.prog) (A := B2) (c := d2) Try.underlying75 Try.underlying5 Try.underlying9 (Kd.C_drewN gi2 n)
      have hq : (k : Int).toNat = k := Int.toNat_natCast k
      clear hl2 gl2 hi2 gi2
      go_wp2
      go_quiet (fail)
      go_wp2
      go_roundw
      case rel => exact ⟨k + 1, by omega, by go_num, hid (by rw [HWD.out]; exact ⟨_, World.drewN_drewN _ _ _⟩)⟩
      case measure => simp [intOf]; omega
    · obtain rfl : k = l.length := by omega
      go_wp2
      go_ret
      exact ⟨rfl, HD.out⟩
end Go.Proofs.Ytnlhlffciigcnaa.QFrag
