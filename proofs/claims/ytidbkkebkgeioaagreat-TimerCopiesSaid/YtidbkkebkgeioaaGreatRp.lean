import Derived.Test.YtidbkkebkgeioaaGreatRo
namespace Go.Proofs.YtidbkkebkgeioaaGreat.En
open Go.ChangeShapes Go.WideShapes Go.ChangeAt Go.RowKit Go.Shelf MK
open Base (hid cell_new1 cell_old1 froz_new1 froz_old1)
open TmA
attribute [local go_sem] Oper.semAt_some
set_option linter.unusedVariables false
set_option linter.unusedSimpArgs false
set_option maxRecDepth 100000
/-! what a nil table answers -/
theorem sortedFunc_nil (w : World) (bk bv : Nat) (hk : w.cell? ⟨bk, 0, none⟩ = some (.map none)) :
    Calls Tryz.prog 44 #[.func (.func 43) #[] #[.pointer (some ⟨bk, 0, none⟩)], .func (.func 45) #[] #[.pointer (some ⟨bv, 0, none⟩)]] w fun e w' => e = .returned (.slice none 0 0) ∧ Below w.heap.size w w' := by
  refine (callsIn_wide (n := 6)).1 ?_
  have hbk := lt_of_cell hk
  have hseq : SeqGives Fence.wide 3 Tryz.prog 43 #[.pointer (some ⟨bk, 0, none⟩)] Go.encZ (fun ss : List Int => ss = []) 0 w :=
    AnyZI.keys_gives_nil (ρ := Tryz.keysI_ren) { Tryz.keysI with } Fence.wide _ trivial rfl bk w hbk hk
  have hC := AnyZI.collect_in Tryz.colI Fence.wide 5 trivial trivial rfl (by omega) 43 #[.pointer (some ⟨bk, 0, none⟩)] trivial (enters_of Tryz.func43 (by kernel_rfl) rfl) _ 0 (by unfold maxLen; omega) (by omega) w hseq
  change CallsIn _ _ Tryz.prog 41 _ _ _ at hC
  have HC := hid hC
  have f70 : Fence.wide.fn 41 := trivial
  have f55 : Fence.wide.fn 55 := trivial
  clear hseq hC
  have hso : ∀ w, Calls Tryz.prog 55 #[.slice none 0 0, .func (.func 45) #[] #[.pointer (some ⟨bv, 0, none⟩)]] w fun e w' => e = .returned (.tuple #[]) ∧ w = w' := by
    intro w
    have h := AnyF.slices_SortFunc_none (P := Tryz.prog) (ρ := Tryz.sortI_ren) { Tryz.sortI with } none 0 (.func (.func 45) #[] #[.pointer (some ⟨bv, 0, none⟩)]) w
    change Calls Tryz.prog 55 _ _ _ at h
    exact h.mono fun e w' h => ⟨h.1, h.2.symm⟩
  have HSO := hid hso
  clear hso
  refine callsIn_of_wp Tryz.func44 rfl trivial ?_ rfl
  simp only [Tryz.ntmps44, List.size_toArray, List.length_cons, List.length_nil, Nat.reduceAdd, Nat.reduceSub, Array.replicate_succ, Array.replicate_zero, List.push_toArray, List.append_toArray, List.nil_append, List.cons_append]
  refine wpIn_wide.2 ?_
  go_wp2_with (first
    | (go_at_call 41; refine (callsIn_wide.1 HC.out).mono ?_; rintro e w1 ⟨v, ss, rfl, rfl, hrow, hnil, hb⟩; obtain rfl : v = .slice none 0 0 := hnil.2 rfl; have HB := hid hb; clear hrow hnil hb)
    | (go_at_call 55; refine (HSO.out _).mono ?_; rintro e w2 ⟨rfl, rfl⟩))
  go_ret
  exact ⟨rfl, HB.out⟩
theorem byTick_nil (w : World) : Calls Tryz.prog 36 #[.pointer none] w fun e w' => e = .returned (.slice none 0 0) ∧ Below w.heap.size w w' := by
  obtain ⟨w2, hw2⟩ : ∃ w2, w2 = (w.alloc (.cells #[.map none] 53)).alloc (.cells #[.map none] 53) := ⟨_, rfl⟩
  have hb2 : Below w.heap.size w w2 := by rw [hw2]; exact below_alloc (below_alloc (Below.refl _ _) _) _
  have hS := sortedFunc_nil w2 (w.heap.size + 1) w.heap.size (by rw [hw2, cell_new1 _ _ _ _ (by simp)]; rfl)
  have hK : ∀ W, Calls Tryz.prog 34 #[.map none] W fun e w' => e = .returned (.func (.func 43) #[] #[.pointer (some ⟨W.heap.size, 0, none⟩)]) ∧ w' = W.alloc (.cells #[.map none] 53) := fun W => callsIn_wide.1 (AnyZI.keys_in Tryz.keysI Fence.wide 5 trivial rfl none W)
  have HS := hid hS
  have HK := hid hK
  have HB2 := hid hb2
  have HW2 := hid hw2
  clear hS hK hb2 hw2
  go_enter Tryz.func36, Tryz.ntmps36
  go_wp2_with (first
    | (go_at_call 35; refine (own_nil w).mono ?_; rintro e w' ⟨rfl, rfl⟩)
    | (go_at_call 34; refine (HK.out _).mono ?_; rintro e w' ⟨rfl, rfl⟩)
    | (go_at_call 44; rw [← HW2.out]; refine HS.out.mono ?_; rintro e w3 ⟨rfl, hb3⟩; have HB3 := hid hb3; clear hb3))
  go_ret
  exact ⟨rfl, HB2.out.trans (HB3.out.mono HB2.out.size)⟩
theorem next_nil (w : World) : Calls Tryz.prog 12 #[.pointer none] w fun e w' => e = .returned (.tuple #[.int .i64 0, .int .i64 0, .bool false]) ∧ Below w.heap.size w w' := by
  go_enter Tryz.func12, Tryz.ntmps12
  go_wp2_with (go_at_call 36; refine (byTick_nil _).mono ?_; rintro e w1 ⟨rfl, hb⟩; have HB := hid hb; clear hb)
  go_ret3
  exact ⟨rfl, HB.out⟩
theorem due_nil (x : Int) (w : World) : Calls Tryz.prog 18 #[.pointer none, .int .i64 x] w fun e w' => e = .returned (.slice none 0 0) ∧ Below w.heap.size w w' := by
  go_enter Tryz.func18, Tryz.ntmps18
  go_wp2_with (go_at_call 36; refine (byTick_nil _).mono ?_; rintro e w1 ⟨rfl, hb⟩; have HB := hid hb; clear hb)
  refine wp_loop_rounds 1 ?_
  rw [rounds_succ]
  go_wp2
  go_ret
  exact ⟨rfl, HB.out⟩
theorem at_nil (x : Int) (hx : I64 x) (w : World) : Calls Tryz.prog 13 #[.pointer none, .int .i64 x] w fun e w' => e = .returned (.tuple #[.int .i64 0, .bool false]) ∧ w = w' := by
  have hl : (Instr.lookup 53 (.map none) (.int .i64 x) true).run Tryz.prog w = .ok (.tuple #[.int .i64 0, .bool false]) w := by
    exact Maps.look_nil true KI.K Tryz.underlying53 (Tryz.zeroValue3 w) (KI.key x hx)
  go_enter Tryz.func13, Tryz.ntmps13
  go_wp2_with (go_at_call 35; refine (own_nil w).mono ?_; rintro e w' ⟨rfl, rfl⟩)
  go_ret2
  exact ⟨rfl, rfl⟩
theorem set_nil (x v : Int) (w : World) : Calls Tryz.prog 15 #[.pointer none, .int .i64 x, .int .i64 v] w fun e w' => e = .returned (.iface 42 (.int .i64 4)) ∧ w = w' := by
  go_enter Tryz.func15, Tryz.ntmps15
  go_wp2
  go_ret
  exact ⟨rfl, rfl⟩
theorem move_nil (x y : Int) (hx : I64 x) (w : World) : Calls Tryz.prog 16 #[.pointer none, .int .i64 x, .int .i64 y] w fun e w' => e = .returned (.iface 42 (.int .i64 4)) ∧ w = w' := by
  go_enter Tryz.func16, Tryz.ntmps16
  go_wp2_with (go_at_call 13; refine (at_nil _ hx _).mono ?_; rintro e w' ⟨rfl, rfl⟩)
  go_ret
  exact ⟨rfl, rfl⟩
theorem stop_nil (x : Int) (hx : I64 x) (w : World) : Calls Tryz.prog 17 #[.pointer none, .int .i64 x] w fun e w' => e = .returned (.bool false) ∧ w = w' := by
  have hd : ∀ ty, (Builtin.delete_ #[53, 3] ty #[.map none, .int .i64 x]).run Tryz.prog w = .ok (.tuple #[]) w := fun ty => Maps.drop_nil KI.K Tryz.underlying53 (KI.key x hx) ty
  go_enter Tryz.func17, Tryz.ntmps17
  go_wp2_with (first
    | (go_at_call 13; refine (at_nil _ hx _).mono ?_; rintro e w' ⟨rfl, rfl⟩)
    | (go_at_call 35; refine (own_nil w).mono ?_; rintro e w' ⟨rfl, rfl⟩))
  go_ret
  exact ⟨rfl, rfl⟩
theorem len_nil (w : World) : Calls Tryz.prog 19 #[.pointer none] w fun e w' => e = .returned (.int .i64 0) ∧ w = w' := by
  have hd : ∀ ty, (Builtin.len_ #[53] ty #[.map none]).run Tryz.prog w = .ok (.int .i64 0) w := fun ty => Maps.len_nil Tryz.underlying53 ty
  go_enter Tryz.func19, Tryz.ntmps19
  go_wp2_with (go_at_call 35; refine (own_nil w).mono ?_; rintro e w' ⟨rfl, rfl⟩)
  go_ret
  exact ⟨rfl, rfl⟩
theorem copy_nil (w : World) : Calls Tryz.prog 9 #[.pointer none] w fun e w' => e = .returned (.pointer none) ∧ w = w' := by
  go_enter Tryz.func9, Tryz.ntmps9
  go_wp2
  go_ret
  exact ⟨rfl, rfl⟩
theorem is_four (w : World) : Calls Tryz.prog 14 #[.iface 42 (.int .i64 4), .int .i64 4] w fun e w' => e = .returned (.bool true) ∧ w = w' := by
  go_enter Tryz.func14, Tryz.ntmps14
  go_wp2_with (go_at_call 25; refine (num_err 4 (by decide) _).mono ?_; rintro e w' ⟨rfl, rfl⟩)
  go_ret
  exact ⟨rfl, rfl⟩
theorem sorted_nil (w : World) (bk : Nat) (hk : w.cell? ⟨bk, 0, none⟩ = some (.map none)) :
    Calls Tryz.prog 33 #[.func (.func 43) #[] #[.pointer (some ⟨bk, 0, none⟩)]] w fun e w' => e = .returned (.slice none 0 0) ∧ Below w.heap.size w w' := by
  refine (callsIn_wide (n := 6)).1 ?_
  have hseq : SeqGives Fence.wide 3 Tryz.prog 43 #[.pointer (some ⟨bk, 0, none⟩)] Go.encZ (fun ss : List Int => ss = []) 0 w :=
    AnyZI.keys_gives_nil (ρ := Tryz.keysI_ren) { Tryz.keysI with } Fence.wide _ trivial rfl bk w (lt_of_cell hk) hk
  have cS := AnyZI.sorted_in Tryz.sortedI Fence.wide 6 trivial trivial trivial trivial rfl (by omega) (sortsO _) (enters_of Tryz.func42 (by kernel_rfl) rfl) 43 #[.pointer (some ⟨bk, 0, none⟩)] trivial (enters_of Tryz.func43 (by kernel_rfl) rfl) _ 0 (by unfold maxLen; omega) (by omega) w hseq
  change CallsIn _ _ Tryz.prog 33 _ _ _ at cS
  refine cS.mono ?_
  rintro e w' ⟨v, ss, rfl, rfl, hrow, hnil, hb⟩
  obtain rfl : v = .slice none 0 0 := hnil.2 rfl
  exact ⟨rfl, hb⟩
theorem seqNil (m : Nat) (hm : 1 ≤ m) (bp cnt : Nat) (w : World) (hbp : w.cell? ⟨bp, 0, none⟩ = some (.pointer none)) :
    SeqPre FW m Tryz.prog 32 #[.pointer (some ⟨bp, 0, none⟩)] (fun x : Int × Int => #[.int .i64 x.1, .int .i64 x.2]) (fun _ _ _ _ => False) (KeepC cnt w.heap.size) (fun xs => xs = []) (fun _ => False) w := by
  intro y J Jx W hW hJ _ _ h0
  have hb := (hW.cell (p := ⟨bp, 0, none⟩) (lt_of_cell hbp)).trans hbp
  obtain ⟨w2, hw2⟩ : ∃ w2, w2 = W.alloc (.cells #[.map none] 53) := ⟨_, rfl⟩
  have hb2 : Below W.heap.size W w2 := by rw [hw2]; exact below_alloc (Below.refl _ _) _
  have hS := sorted_nil w2 W.heap.size (by rw [hw2, cell_new1 _ _ _ _ rfl]; rfl)
  have hK : Calls Tryz.prog 34 #[.map none] W fun e w' => e = .returned (.func (.func 43) #[] #[.pointer (some ⟨W.heap.size, 0, none⟩)]) ∧ w' = w2 := by
    rw [hw2]
    exact callsIn_wide.1 (AnyZI.keys_in Tryz.keysI Fence.wide 5 trivial rfl none W)
  show CallsIn FW m Tryz.prog 32 #[.func (.yield y) #[] #[], .pointer (some ⟨bp, 0, none⟩)] W _
  refine callsIn_of_wp Tryz.func32 rfl trivial ?_ rfl
  simp only [Tryz.ntmps32, List.size_toArray, List.length_cons, List.length_nil, Nat.reduceAdd, Nat.reduceSub, Array.replicate_succ, Array.replicate_zero, List.push_toArray, List.append_toArray, List.nil_append, List.cons_append]
  have f35 : FW.fn 35 := trivial
  have f34 : FW.fn 34 := trivial
  have f33 : FW.fn 33 := trivial
  have HS := hid hS
  have HK := hid hK
  have HB2 := hid hb2
  have HJ := hid hJ
  clear hS hK hb2 hJ hw2
  gi_wp2_with (first
    | (gi_at_call 35; refine (callsIn_wide.2 (own_nil _)).mono ?_; rintro e w' ⟨rfl, rfl⟩)
    | (gi_at_call 34; refine (callsIn_wide.2 HK.out).mono ?_; rintro e w' ⟨rfl, rfl⟩)
    | (gi_at_call 33; refine (callsIn_wide.2 HS.out).mono ?_; rintro e w3 ⟨rfl, hb3⟩; have HB3 := hid (HB2.out.trans (hb3.mono HB2.out.size)); clear hb3))
  have hJ3 : J [] w3 := HJ.out [] W w3 none h0 ⟨HB3.out.os, HB3.out.tape, HB3.out.output, HB3.out.size, fun k hk _ => HB3.out.block k hk⟩ (fun r e => by cases e)
  refine wpIn_loop_rounds 1 ?_
  rw [roundsIn_succ]
  gi_wp2
  go_end0
  exact ⟨⟨_, rfl⟩, .inl ⟨_, rfl, hJ3⟩⟩
end Go.Proofs.YtidbkkebkgeioaaGreat.En
