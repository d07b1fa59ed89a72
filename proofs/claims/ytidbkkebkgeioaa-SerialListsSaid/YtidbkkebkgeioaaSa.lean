import Derived.Test.YtidbkkebkgeioaaIt
import Derived.Test.YtidbkkebkgeioaaSlLaw
import Derived.Test.YtidbkkebkgeioaaTmB
import Derived.Deep.QuietTactic
import Derived.BigQuiet
namespace Go.Proofs.Ytidbkkebkgeioaa.Sl
open Go.ChangeShapes Go.WideShapes Go.ChangeAt Go.RowKit Go.Shelf Go.Sort
open Base (hid cell_new1 cell_old1 froz_new1 froz_old1)
open It (clone_any seqR runs)
attribute [local go_sem] Oper.semAt_some
set_option linter.unusedVariables false
set_option linter.unusedSimpArgs false
set_option maxRecDepth 100000
theorem far16 (a b : Int) (w : World) : Calls Try.prog 27 #[.int .u16 a, .int .u16 b] w fun e w' => e = .returned (.int .i64 ((b - a) % 65536)) ∧ w = w' := by
  have h : IntKind.u16.wrap (b - a) = (b - a) % 65536 := rfl
  go_enter Try.func27, Try.ntmps27
  go_wp2
  go_ret
  exact ⟨rfl, rfl⟩
theorem far32 (a b : Int) (w : World) : Calls Try.prog 32 #[.int .u32 a, .int .u32 b] w fun e w' => e = .returned (.int .i64 (far a b)) ∧ w = w' := by
  have h : IntKind.u32.wrap (b - a) = (b - a) % 4294967296 := rfl
  go_enter Try.func32, Try.ntmps32
  go_wp2
  go_ret
  exact ⟨rfl, rfl⟩
theorem half_val16 : wrap64 (wrap64 (IntKind.u16.wrap ((bits BinOp.xor IntKind.u16 IntKind.u16.max 0).tdiv 2)) + 1) = 32768 := by decide +kernel
theorem half16 (w : World) : Calls Try.prog 45 #[] w fun e w' => e = .returned (.int .i64 32768) ∧ w = w' := by
  have h : ¬ IntKind.u16.signed = true := by decide
  go_enter Try.func45, Try.ntmps45
  go_wp2
  go_ret
  exact ⟨Base.ret_int half_val16, rfl⟩
def ahB (a b : Int) : Bool := decide (¬ a = b ∧ (b - a) % 65536 < 32768)
theorem ah_yes : ahB 65535 2 = true := by decide
theorem ah_no : ahB 2 65535 = false := by decide
theorem ahead16 (a b : Int) (w : World) : Calls Try.prog 26 #[.int .u16 a, .int .u16 b] w fun e w' => e = .returned (.bool (ahB a b)) ∧ w = w' := by
  by_cases h : a = b
  · rw [show ahB a b = false by simp [ahB, h]]
    have h : (a != b) = false := by simp [h]
    go_enter Try.func26, Try.ntmps26
    go_wp2_with (first | (go_at_call 27; refine (far16 _ _ _).mono ?_; rintro e w' ⟨rfl, rfl⟩) | (go_at_call 45; refine (half16 _).mono ?_; rintro e w' ⟨rfl, rfl⟩))
    go_ret
    exact ⟨rfl, rfl⟩
  · rw [show ahB a b = decide ((b - a) % 65536 < 32768) by simp [ahB, h]]
    have h : (a != b) = true := by simp [h]
    go_enter Try.func26, Try.ntmps26
    go_wp2_with (first | (go_at_call 27; refine (far16 _ _ _).mono ?_; rintro e w' ⟨rfl, rfl⟩) | (go_at_call 45; refine (half16 _).mono ?_; rintro e w' ⟨rfl, rfl⟩))
    go_ret
    exact ⟨rfl, rfl⟩
theorem alive_calls (w : World) : Calls Try.prog 7 #[] w fun e w' => e = .returned (.bool true) ∧ w = w' := by
  have h1 := ah_yes
  have h2 := ah_no
  go_enter Try.func7, Try.ntmps7
  go_wp2_with (first | (go_at_call 26; refine (ahead16 _ _ _).mono ?_; rintro e w' ⟨rfl, rfl⟩) | (go_at_call 27; refine (far16 _ _ _).mono ?_; rintro e w' ⟨rfl, rfl⟩))
  go_ret
  exact ⟨rfl, rfl⟩
abbrev K32 := { x : Int // U x }
instance : Inhabited K32 := ⟨⟨0, by unfold U; omega⟩⟩
def encU (x : K32) : Value := .int .u32 x.1
def cfar (f : Int) (x y : Int) : Int := Lib.compareInt (far f x) (far f y)
theorem ltOf_far (f x y : Int) : ltOf (cfar f) x y = decide (far f x < far f y) := by
  unfold ltOf cfar
  rcases TmA.cmp_cases (far f x) (far f y) with ⟨h, e⟩ | ⟨h, e⟩ | ⟨h, e⟩ <;> rw [e] <;> simp <;> omega
theorem swo_far (f : Int) : SWO (ltOf (fun a b : K32 => cfar f a.1 b.1)) where
  irrefl x := by
    show ltOf (cfar f) x.1 x.1 = false
    rw [ltOf_far]
    simp
  trans x y z h1 h2 := by
    have h1 : ltOf (cfar f) x.1 y.1 = true := h1
    have h2 : ltOf (cfar f) y.1 z.1 = true := h2
    show ltOf (cfar f) x.1 z.1 = true
    rw [ltOf_far, decide_eq_true_iff] at *
    omega
  ntrans x y z h1 h2 := by
    have h1 : ltOf (cfar f) x.1 y.1 = false := h1
    have h2 : ltOf (cfar f) y.1 z.1 = false := h2
    show ltOf (cfar f) x.1 z.1 = false
    rw [ltOf_far, decide_eq_false_iff_not] at *
    omega
theorem tot_far (f : Int) (x y : K32) (h1 : ltOf (fun a b : K32 => cfar f a.1 b.1) x y = false) (h2 : ltOf (fun a b : K32 => cfar f a.1 b.1) y x = false) : x = y := by
  have h1 : ltOf (cfar f) x.1 y.1 = false := h1
  have h2 : ltOf (cfar f) y.1 x.1 = false := h2
  rw [ltOf_far, decide_eq_false_iff_not] at h1 h2
  exact Subtype.ext (far_inj (f := f) x.2 y.2 (by omega))
theorem closure_calls (w : World) (bf : Nat) (f x y : Int) (hf : w.cell? ⟨bf, 0, none⟩ = some (.int .u32 f)) :
    Calls Try.prog 30 #[.int .u32 x, .int .u32 y, .pointer (some ⟨bf, 0, none⟩)] w fun e w' => e = .returned (.int .i64 (cfar f x y)) ∧ ∃ q, w' = w.drewN q := by
  go_enter Try.func30, Try.ntmps30
  go_wp2
  go_quiet ((first
    | (go_at_call 32; exact Calls.quiet_of_same ((far32 _ _ _).mono fun e w' h => ⟨h.1, h.2.symm⟩))
    | (go_at_call 31; exact Calls.quiet_of_same ((TmA.cmp_calls _ _ _).mono fun e w' h => ⟨h.1, h.2.symm⟩))))
  go_wp2
  go_ret
  exact ⟨rfl, _, rfl⟩
/-- The sorted list. -/
def srt (f : Int) (l : List K32) : List K32 := l.mergeSort fun x y => !ltOf (fun a b : K32 => cfar f a.1 b.1) y x
theorem srt_le (f : Int) (l : List K32) : ((srt f l).map (·.1)).Pairwise (fun x y => far f x ≤ far f y) := by
  rw [List.pairwise_map]
  have := List.pairwise_mergeSort (le := fun x y : K32 => !ltOf (fun a b : K32 => cfar f a.1 b.1) y x) (fun a b c h1 h2 => by
    have h1 : (!ltOf (cfar f) b.1 a.1) = true := h1
    have h2 : (!ltOf (cfar f) c.1 b.1) = true := h2
    show (!ltOf (cfar f) c.1 a.1) = true
    rw [ltOf_far] at *
    simp at *
    omega) (fun a b => by
    show (!ltOf (cfar f) b.1 a.1 || !ltOf (cfar f) a.1 b.1) = true
    rw [ltOf_far, ltOf_far]
    simp
    omega) l
  refine this.imp fun {a b} h => ?_
  have h : (!ltOf (cfar f) b.1 a.1) = true := h
  rw [ltOf_far] at h
  simpa using h
theorem srt_perm (f : Int) (l : List K32) : ((srt f l).map (·.1)).Perm (l.map (·.1)) := (List.mergeSort_perm _ _).map _
theorem sortFunc_calls (w : World) (bf g cap : Nat) (f : Int) (B : Nat) (ks : List K32) (hf : w.cell? ⟨bf, 0, none⟩ = some (.int .u32 f)) (hr : w.ownsRow B 22 1 (.slice (some ⟨g, 0, none⟩) ks.length cap) ks.length (ks.map encU)) (hne : g ≠ bf) (hl : ks.length ≤ 1000000) :
    Calls Try.prog 29 #[.slice (some ⟨g, 0, none⟩) ks.length cap, .func (.func 30) #[] #[.pointer (some ⟨bf, 0, none⟩)]] w fun e w' => e = .returned (.tuple #[]) ∧ w'.ownsRow B 22 1 (.slice (some ⟨g, 0, none⟩) ks.length cap) ks.length ((srt f ks).map encU) ∧ w.grownBy w' (some g) := by
  rcases hr.2 with ⟨e, _⟩ | ⟨g', cap', cur, e, hbase, hg, r1, r2, r3, r4⟩
  · cases e
  · cases e
    have hgl : g < w.heap.size := (Array.getElem?_eq_some_iff.1 hg).1
    have hH : Go.Sort.Holds encU w g 0 ks.toArray := TmA.holds_blk encU hg (by simpa using r4)
    have eg : ∀ args w, (callFunc 30 args).run Try.prog w = .ok (.enter 30 args) w := enters_of Try.func30 (by kernel_rfl) rfl
    have hcmp : CmpLays1 Try.prog 30 #[.pointer (some ⟨bf, 0, none⟩)] encU (fun a b : K32 => cfar f a.1 b.1) g 0 ks.toArray.size w := by
      intro q os dk hs x y
      have hg1 : w.grownBy (sortWorld encU w g 0 q dk os) (some g) := TmA.grown_srt encU dk
      refine (closure_calls (sortWorld encU w g 0 q dk os) bf f x.1 y.1 ?_).mono ?_
      · exact (World.cell?_of_block (w := w) (a := ⟨bf, 0, none⟩) (hg1.block bf (TmA.lt_of_cell hf) (fun e => hne (by cases e; rfl)))).trans hf
      · rintro e w' ⟨rfl, q, rfl⟩
        exact ⟨rfl, q, #[], by rw [grow_empty]⟩
    have h := Any.slices_SortFunc_total Try.sortU encU (fun _ => rfl) (fun a b : K32 => cfar f a.1 b.1) (swo_far f) 30 #[.pointer (some ⟨bf, 0, none⟩)] g 0 cap ks.toArray w eg hcmp hH hgl (by simp; omega) (tot_far f)
    change Calls Try.prog 29 _ _ _ at h
    rw [show ks.toArray.size = ks.length by simp] at h
    refine h.mono ?_
    rintro e w' ⟨rfl, q, os, rfl⟩
    exact ⟨rfl, TmA.owns_srt encU (w := w) (n := q) (os := os) (ts := srt f ks) (k := ks.length) (by unfold srt; rw [List.length_mergeSort]) hbase hg r1 r2 r3, TmA.grown_srt encU _⟩
theorem sortFunc_none (w : World) (fv : Value) : Calls Try.prog 29 #[.slice none 0 0, fv] w fun e w' => e = .returned (.tuple #[]) ∧ w = w' := by
  have h := AnyF.slices_SortFunc_none (P := Try.prog) (ρ := Try.sortU_ren) { Try.sortU with } none 0 fv w
  change Calls Try.prog 29 _ _ _ at h
  exact h.mono fun e w' h => ⟨h.1, h.2.symm⟩
end Go.Proofs.Ytidbkkebkgeioaa.Sl
