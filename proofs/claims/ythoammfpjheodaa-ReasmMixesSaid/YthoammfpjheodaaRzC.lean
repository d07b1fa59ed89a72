import Derived.Test.YthoammfpjheodaaRzB
namespace Go.Proofs.Ythoammfpjheodaa.Rz
open Go.ChangeShapes Go.WideShapes Go.ChangeAt Go.RowKit Go.Shelf MK
open Base (hid cell_new1 cell_old1 froz_new1 froz_old1)
attribute [local go_sem] Oper.semAt_some
set_option linter.unusedVariables false
set_option linter.unusedSimpArgs false
set_option maxRecDepth 100000
def KU : Keys Try.prog 23 Int := intKs Try.underlying23
def zP : Value := .agg #[.int .u32 0, .int .u16 0, .int .u16 0, .bool false, .bool false, .bool false, .slice none 0 0]
def fP (m : List Pm) : Int → Option Value := fun t => (look m t).map Pm.val
theorem u_wf {x : Int} (h : U32 x) : (Lit.int .u32 x).wf = true := by
  unfold U32 at h
  simp [Lit.wf, IntKind.min, IntKind.max, IntKind.signed, IntKind.bits]
  omega
/-- A bench in memory. -/
structure Bn (w : World) (bp mb n : Nat) (m : List Pm) : Prop where
  ptr : w.cell? ⟨bp, 0, none⟩ = some (.map (some mb))
  hel : w.cell? ⟨bp, 1, none⟩ = some (.int .i64 (held m : Nat))
  fr : w.frozen? ⟨bp, 1, none⟩ = false
  map : MapIs Try.prog 23 w KU mb n (fP m) m.length
  nod : (keys m).Nodup
  ok : ∀ p ∈ m, Ok w p
  far : ∀ p ∈ m, ∀ ad, p.A = some ad → ad.block ≠ bp
theorem Bn.lt {w : World} {bp mb n : Nat} {m : List Pm} (h : Bn w bp mb n m) : bp < w.heap.size ∧ mb < w.heap.size := ⟨lt_of_cell h.ptr, h.map.lt⟩
theorem Bn.ne {w : World} {bp mb n : Nat} {m : List Pm} (h : Bn w bp mb n m) : bp ≠ mb := by
  rintro rfl
  obtain ⟨D, ⟨es, clock, hb, _⟩, _⟩ := h.map
  have := h.ptr
  simp [World.cell?, hb] at this
theorem Bn.below {w w' : World} {bp mb n : Nat} {m : List Pm} (h : Bn w bp mb n m) (hb : Below w.heap.size w w') : Bn w' bp mb n m :=
  ⟨(hb.cell (p := ⟨bp, 0, none⟩) h.lt.1).trans h.ptr, (hb.cell (p := ⟨bp, 1, none⟩) h.lt.1).trans h.hel, (hb.frozen (p := ⟨bp, 1, none⟩) h.lt.1).trans h.fr, h.map.below hb, h.nod, fun p hp => (h.ok p hp).below hb, h.far⟩
theorem Bn.look {w : World} {bp mb n : Nat} {m : List Pm} (h : Bn w bp mb n m) {t : Int} (hu : U32 t) :
    (Instr.lookup 102 (.map (some mb)) (.int .u32 t) true).run Try.prog w = .ok (.tuple #[((look m t).map Pm.val).getD zP, .bool (look m t).isSome]) w := by
  have := h.map.look_ok Try.underlying102 (Try.zeroValue40 w) t (u_wf hu)
  have e : (fP m t).isSome = (Rz.look m t).isSome := by unfold fP; cases Rz.look m t <;> rfl
  rw [e] at this
  exact this
theorem len_calls (w : World) (bp mb n : Nat) (m : List Pm) (h : Bn w bp mb n m) : Calls Try.prog 16 #[.pointer (some ⟨bp, 0, none⟩)] w fun e w' => e = .returned (.int .i64 (m.length : Nat)) ∧ w = w' := by
  have hl : ∀ ty, (Builtin.len_ #[102] ty #[.map (some mb)]).run Try.prog w = .ok (.int .i64 (m.length : Nat)) w := fun ty => h.map.len Try.underlying102 ty
  have hp := h.ptr
  go_enter Try.func16, Try.ntmps16
  go_wp2
  go_ret
  exact ⟨rfl, rfl⟩
theorem held_calls (w : World) (bp mb n : Nat) (m : List Pm) (h : Bn w bp mb n m) : Calls Try.prog 17 #[.pointer (some ⟨bp, 0, none⟩)] w fun e w' => e = .returned (.int .i64 (held m : Nat)) ∧ w = w' := by
  have hp := h.hel
  go_enter Try.func17, Try.ntmps17
  go_wp2
  go_ret
  exact ⟨rfl, rfl⟩
theorem has_calls (w : World) (bp mb n : Nat) (m : List Pm) (t : Int) (h : Bn w bp mb n m) (hu : U32 t) :
    Calls Try.prog 37 #[.pointer (some ⟨bp, 0, none⟩), .int .u32 t] w fun e w' => e = .returned (.bool (look m t).isSome) ∧ Below w.heap.size w w' := by
  have hp := h.ptr
  have hl := h.look hu
  cases hq : look m t with
  | none =>
    rw [hq] at hl
    simp only [Option.map_none, Option.getD_none, Option.isSome_none, zP] at hl
    go_enter Try.func37, Try.ntmps37
    go_wp2
    go_ret
    exact ⟨rfl, below_alloc (Below.refl _ _) _⟩
  | some q =>
    rw [hq] at hl
    simp only [Option.map_some, Option.getD_some, Option.isSome_some, Pm.val] at hl
    go_enter Try.func37, Try.ntmps37
    go_wp2
    go_ret
    exact ⟨rfl, below_alloc (Below.refl _ _) _⟩
theorem new_calls (w : World) : Calls Try.prog 13 #[] w fun e w' => ∃ bp mb, e = .returned (.pointer (some ⟨bp, 0, none⟩)) ∧ Bn w' bp mb 0 [] ∧ w.heap.size ≤ bp ∧ w.heap.size ≤ mb ∧ Below w.heap.size w w' := by
  have hmm := @run_makeMap Try.prog
  go_enter Try.func13, Try.ntmps13
  go_wp2
  go_ret
  refine ⟨w.heap.size + 1, w.heap.size, rfl, ⟨?_, ?_, ?_, ?_, List.Pairwise.nil, (fun p hp => by simp at hp), (fun p hp => by simp at hp)⟩, by omega, Nat.le_refl _, ((Below.refl _ w).alloc (Nat.le_refl _) _).alloc (by simp) _⟩
  · rw [(box_at (box_new _ _ (by simp)) 0).1]; rfl
  · rw [(box_at (box_new _ _ (by simp)) 1).1]; rfl
  · exact (box_at (box_new _ _ (by simp)) 1).2
  · exact (MapIs.made w KU).below (below_alloc (Below.refl _ _) _)
end Go.Proofs.Ythoammfpjheodaa.Rz
