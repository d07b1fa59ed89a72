import Derived.Test.YtidbkkebkgeioaaSk
import Derived.Stop.RegionWithIn
import Derived.RangeFuncKeeps
/-! The body of the range over Runs: two appends in one region that draws its order, in a round. -/
namespace Go.Proofs.Ytidbkkebkgeioaa.Sl
open Go.ChangeShapes Go.WideShapes Go.ChangeAt Go.RowKit Go.Shelf
open Base (hid cell_new1 cell_old1 froz_new1 froz_old1)
open It (FW)
attribute [local go_sem] Oper.semAt_some
set_option linter.unusedVariables false
set_option linter.unusedSimpArgs false
/-- A region's orders in a round: as outside of it. -/
theorem wpAnyIn_round {F : Fence} {n l : Nat} {P : Program} {md : Region.Mode} {ops : Array Oper} {Q : Exit → Go.Act → World → Prop} (hro : F.round = none) (hd : ∀ (i : Nat) (o : Oper), ops[i]? = some o → ∀ c, o.op ≠ .defer c) :
    ∀ (fuel : Nat) (listed : Array Bool) (a : Go.Act) (w : World), wpAnyIn F n P md ops Q fuel listed a w → wpAnyIn (F.inRound l) n P md ops Q fuel listed a w
  | 0, listed, a, w, h => h
  | fuel + 1, listed, a, w, h => by
    refine ⟨h.1, fun i hi => ?_⟩
    have h2 := wpOpIn_mono (K' := wpAnyIn (F.inRound l) n P md ops Q fuel (listed.setIfInBounds i true)) (fun a w => wpAnyIn_round (l := l) hro hd fuel (listed.setIfInBounds i true) a w) (h.2 i hi)
    unfold wpOpIn at h2 ⊢
    cases ho : ops[i]? with
    | none => simpa [ho] using h2
    | some o =>
      simp only [ho] at h2 ⊢
      split
      · rename_i hw
        rw [if_pos hw] at h2
        unfold Oper.wpIn at h2 ⊢
        rw [Oper.semAt_eq _ _ _ (hd i o ho)] at h2 ⊢
        exact h2
      · rename_i hw
        rw [if_neg hw] at h2
        exact h2
/-- The two lists as they stand within the body. -/
structure Pair (W w : World) (g B : Nat) (u1 u2 a b : Value) (xs ys : List Int) : Prop where
  c1 : w.cell? ⟨g + 2, 0, none⟩ = some u1
  f1 : w.frozen? ⟨g + 2, 0, none⟩ = false
  c2 : w.cell? ⟨g + 3, 0, none⟩ = some u2
  f2 : w.frozen? ⟨g + 3, 0, none⟩ = false
  o1 : w.ownsRow g 3 1 a xs.length (xs.map (.int .i64))
  o2 : w.ownsRow (g + 1) 3 1 b ys.length (ys.map (.int .i64))
  q1 : ∀ q, a.ownBlock = some q → q = g ∨ B ≤ q
  q2 : ∀ q, b.ownBlock = some q → q = g + 1 ∨ B ≤ q
  ap : Apart a b
  gB : g + 4 ≤ B
  BW : B ≤ W.heap.size
  sz : W.heap.size ≤ w.heap.size
  os : w.os = W.os
  tape : w.tape = W.tape
  output : w.output = W.output
  blk : ∀ k, k < B → k ≠ g → k ≠ g + 1 → w.heap[k]? = W.heap[k]?
  ko : KeepsOthers W w
theorem ko_below {W w w' : World} (h : KeepsOthers W w) (hb : Below w.heap.size w w') : KeepsOthers W w' :=
  h.trans ⟨hb.size, fun j o hj _ => (hb.block j (Array.getElem?_eq_some_iff.1 hj).1).trans hj⟩
theorem Pair.below {W w w' : World} {g B : Nat} {u1 u2 a b : Value} {xs ys : List Int} (h : Pair W w g B u1 u2 a b xs ys) (hb : Below w.heap.size w w') : Pair W w' g B u1 u2 a b xs ys :=
  ⟨(hb.cell (p := ⟨g + 2, 0, none⟩) (by have := h.gB; have := h.BW; have := h.sz; show g + 2 < _; omega)).trans h.c1, (hb.frozen (p := ⟨g + 2, 0, none⟩) (by have := h.gB; have := h.BW; have := h.sz; show g + 2 < _; omega)).trans h.f1,
   (hb.cell (p := ⟨g + 3, 0, none⟩) (by have := h.gB; have := h.BW; have := h.sz; show g + 3 < _; omega)).trans h.c2, (hb.frozen (p := ⟨g + 3, 0, none⟩) (by have := h.gB; have := h.BW; have := h.sz; show g + 3 < _; omega)).trans h.f2,
   Base.ownsRow_later h.o1 hb, Base.ownsRow_later h.o2 hb, h.q1, h.q2, h.ap, h.gB, h.BW, Nat.le_trans h.sz hb.size, hb.os.trans h.os, hb.tape.trans h.tape, hb.output.trans h.output,
   fun k hk h1 h2 => (hb.block k (by have := h.BW; have := h.sz; omega)).trans (h.blk k hk h1 h2), ko_below h.ko hb⟩
theorem ko_row {W w w' : World} {B n s : Nat} {e : TypeId} {v : Value} {xs : List Value} (h : KeepsOthers W w) (ho : w.ownsRow B e s v n xs) (hg : w.grownBy w' v.ownBlock) : KeepsOthers W w' := by
  refine h.trans (KeepsOthers.of_grownBy hg fun j o ej hj => ?_)
  rcases ho.2 with ⟨rfl, _⟩ | ⟨q, cap, cur, rfl, _, hq, _⟩
  · simp [Value.ownBlock] at ej
  · simp [Value.ownBlock] at ej
    subst ej
    rw [hq] at hj
    cases hj
    rfl
theorem Pair.app1 {W w w' : World} {g B : Nat} {u1 u2 a a' b : Value} {xs ys xs' : List Int} (h : Pair W w g B u1 u2 a b xs ys) (hg : w.grownBy w' a.ownBlock) (ho : w'.ownsRow g 3 1 a' xs'.length (xs'.map (.int .i64)))
    (hat : a'.ownBlock = a.ownBlock ∨ a'.ownBlock = some w.heap.size) : Pair W w' g B u1 u2 a' b xs' ys := by
  have hB := h.BW
  have hg4 := h.gB
  have hsz := h.sz
  have hne : ∀ k, k < B → k ≠ g → some k ≠ a.ownBlock := fun k hk hn e => by
    rcases h.q1 k e.symm with h' | h' <;> omega
  refine ⟨hg.cell (a := ⟨g + 2, 0, none⟩) h.c1 (hne (g + 2) (by omega) (by omega)), (World.frozen?_of_block (w := w) (hg.block (g + 2) (by omega) (hne _ (by omega) (by omega)))).trans h.f1,
    hg.cell (a := ⟨g + 3, 0, none⟩) h.c2 (hne (g + 3) (by omega) (by omega)), (World.frozen?_of_block (w := w) (hg.block (g + 3) (by omega) (hne _ (by omega) (by omega)))).trans h.f2,
    ho, h.o2.kept hg (apart_row h.ap), fun q e => ?_, h.q2, ?_, hg4, hB, Nat.le_trans hsz hg.size, hg.os.trans h.os, hg.tape.trans h.tape, hg.output.trans h.output,
    fun k hk h1 h2 => (hg.block k (by omega) (hne k hk h1)).trans (h.blk k hk h1 h2), ko_row h.ko h.o1 hg⟩
  · rcases hat with e' | e'
    · exact h.q1 q (e' ▸ e)
    · rw [e'] at e
      cases e
      exact .inr (by omega)
  · intro q e1 e2
    rcases hat with e' | e'
    · exact h.ap q (e' ▸ e1) e2
    · rw [e'] at e1
      cases e1
      have := (own_base h.o2 e2).2
      omega
theorem Pair.swap_ap {W w w' : World} {g B : Nat} {u1 u2 a b b' : Value} {xs ys ys' : List Int} (h : Pair W w g B u1 u2 a b xs ys) (hg : w.grownBy w' b.ownBlock) (ho : w'.ownsRow (g + 1) 3 1 b' ys'.length (ys'.map (.int .i64)))
    (hat : b'.ownBlock = b.ownBlock ∨ b'.ownBlock = some w.heap.size) : Pair W w' g B u1 u2 a b' xs ys' := by
  have hB := h.BW
  have hg4 := h.gB
  have hsz := h.sz
  have hne : ∀ k, k < B → k ≠ g + 1 → some k ≠ b.ownBlock := fun k hk hn e => by
    rcases h.q2 k e.symm with h' | h' <;> omega
  refine ⟨hg.cell (a := ⟨g + 2, 0, none⟩) h.c1 (hne (g + 2) (by omega) (by omega)), (World.frozen?_of_block (w := w) (hg.block (g + 2) (by omega) (hne _ (by omega) (by omega)))).trans h.f1,
    hg.cell (a := ⟨g + 3, 0, none⟩) h.c2 (hne (g + 3) (by omega) (by omega)), (World.frozen?_of_block (w := w) (hg.block (g + 3) (by omega) (hne _ (by omega) (by omega)))).trans h.f2,
    h.o1.kept hg (apart_row h.ap.symm), ho, h.q1, fun q e => ?_, ?_, hg4, hB, Nat.le_trans hsz hg.size, hg.os.trans h.os, hg.tape.trans h.tape, hg.output.trans h.output,
    fun k hk h1 h2 => (hg.block k (by omega) (hne k hk h2)).trans (h.blk k hk h1 h2), ko_row h.ko h.o2 hg⟩
  · rcases hat with e' | e'
    · exact h.q2 q (e' ▸ e)
    · rw [e'] at e
      cases e
      exact .inr (by omega)
  · intro q e1 e2
    rcases hat with e' | e'
    · exact h.ap q e1 (e' ▸ e2)
    · rw [e'] at e2
      cases e2
      have := (own_base h.o1 e1).2
      omega
theorem appI {w : World} {ops : Array Oper} {o : Oper} {act : Go.Act} {n : Nat} {K : Go.Act → World → Prop} {Q : Exit → Go.Act → World → Prop} {E : Prop} {a : Value} {xs : List Int} {g : Nat} (hO : w.ownsRow g 3 1 a xs.length (xs.map (.int .i64))) (hgs : g ≤ w.heap.size)
    (s x : Operand) (hgd : o.guard = none) (ho : o.op = .call { callee := .builtin .append, args := #[s, x], argTypes := #[25, 25] }) (hs : act.eval s = a) (ad : Addr) (y : Int) (hx : act.eval x = .slice (some ad) 1 1) (hc : w.cell? ad = some (.int .i64 y)) (hn : xs.length ≤ 1000)
    (h : ∀ v1 w1, w1.ownsRow g 3 1 v1 (xs ++ [y]).length ((xs ++ [y]).map (.int .i64)) → w.grownBy w1 a.ownBlock → (v1.ownBlock = a.ownBlock ∨ v1.ownBlock = some w.heap.size) → K (act.put o.dst v1) w1) :
    if Region.wanted o (yielded ops act.tmps) = true then Oper.wpIn FW n Try.prog o act w K Q else E := by
  obtain ⟨i0, hi, hi0, hi1, hi2⟩ := info_parts info3
  have hw : Region.wanted o (yielded ops act.tmps) = true := by simp [Region.wanted, hgd]
  rw [if_pos hw]
  obtain ⟨v', w', hr, h2, h3, h4, h5⟩ := run_append_own_at (P := Try.prog) (w := w) g 25 o.type 3 i0 (.int .i64 0) 1 8 Try.underlying25 hi hi0 hi1 hi2 rfl (by decide) a xs.length (xs.map (.int .i64)) hO ad 1 1 [.int .i64 y] rfl (fun j u hj => by
    cases j with
    | zero =>
      simp at hj
      subst hj
      rw [show ad.add 0 = ad by unfold Addr.add; split <;> simp_all]
      exact hc
    | succ j => simp at hj) (fun u hu => by rw [List.mem_singleton.1 hu]; rfl) (by unfold maxLen; omega) (by omega) hgs
  unfold Oper.wpIn
  refine ⟨fun _ _ => trivial, ?_⟩
  rw [Oper.semAt_eq _ _ _ (by rw [ho]; intro c hc'; cases hc')]
  unfold execOp
  simp only [ho, resolve, invoke, builtin, Sem.run_bind, Sem.run_pure, Result.andThen_ok, List.map_toArray, List.map_cons, List.map_nil, hs, hx, hr]
  exact h v' w' (by simpa using h2) h3 h5
theorem app1I {W w : World} {g B : Nat} {u1 u2 a b : Value} {xs ys : List Int} (P : Pair W w g B u1 u2 a b xs ys) (s x : Operand) {ops : Array Oper} {o : Oper} {act : Go.Act} {n : Nat} {K : Go.Act → World → Prop} {Q : Exit → Go.Act → World → Prop} {E : Prop}
    (hgd : o.guard = none) (ho : o.op = .call { callee := .builtin .append, args := #[s, x], argTypes := #[25, 25] }) (hs : act.eval s = a) (ad : Addr) (y : Int) (hx : act.eval x = .slice (some ad) 1 1) (hc : w.cell? ad = some (.int .i64 y)) (hn : xs.length ≤ 1000) (hla : ∀ q, a.ownBlock = some q → q < W.heap.size)
    (h : ∀ v1 w1, Pair W w1 g B u1 u2 v1 b (xs ++ [y]) ys → (∀ p u, W.heap.size ≤ p.block → w.cell? p = some u → w1.cell? p = some u) → K (act.put o.dst v1) w1) :
    if Region.wanted o (yielded ops act.tmps) = true then Oper.wpIn FW n Try.prog o act w K Q else E :=
  appI P.o1 (by have := P.gB; have := P.BW; have := P.sz; omega) s x hgd ho hs ad y hx hc hn fun v1 w1 h1 h2 h3 => h v1 w1 (P.app1 h2 h1 h3) fun p u hp hu => h2.cell hu (fun e => Nat.lt_irrefl _ (Nat.lt_of_lt_of_le (hla _ e.symm) hp))
theorem app2I {W w : World} {g B : Nat} {u1 u2 a b : Value} {xs ys : List Int} (P : Pair W w g B u1 u2 a b xs ys) (s x : Operand) {ops : Array Oper} {o : Oper} {act : Go.Act} {n : Nat} {K : Go.Act → World → Prop} {Q : Exit → Go.Act → World → Prop} {E : Prop}
    (hgd : o.guard = none) (ho : o.op = .call { callee := .builtin .append, args := #[s, x], argTypes := #[25, 25] }) (hs : act.eval s = b) (ad : Addr) (y : Int) (hx : act.eval x = .slice (some ad) 1 1) (hc : w.cell? ad = some (.int .i64 y)) (hn : ys.length ≤ 1000)
    (h : ∀ v1 w1, Pair W w1 g B u1 u2 a v1 xs (ys ++ [y]) → K (act.put o.dst v1) w1) :
    if Region.wanted o (yielded ops act.tmps) = true then Oper.wpIn FW n Try.prog o act w K Q else E :=
  appI P.o2 (by have := P.gB; have := P.BW; have := P.sz; omega) s x hgd ho hs ad y hx hc hn fun v1 w1 h1 h2 h3 => h v1 w1 (P.swap_ap h2 h1 h3)
theorem new_a {X : World} {v : Value} {k : Nat} (h : k = X.heap.size) : (X.alloc (.cells #[v] 3)).cell? ⟨k, 0, none⟩ = some v := by
  subst h
  exact (cell_new1 _ _ _ _ rfl 0).trans rfl
theorem new_b {X : World} {v : Value} {o : Obj} {k : Nat} (h : k = X.heap.size) : ((X.alloc (.cells #[v] 3)).alloc o).cell? ⟨k, 0, none⟩ = some v := by
  subst h
  exact (cell_old1 _ _ _ (by simp) 0).trans ((cell_new1 _ _ _ _ rfl 0).trans rfl)
/-- The ways into a code. -/
noncomputable def goL : Code → Code
  | .seq a _ => a
  | .block _ c => c
  | .rangeFunc _ _ _ b => b
  | c => c
noncomputable def goR : Code → Code
  | .seq _ b => b
  | c => c
/-- The region in which the body of the range over Runs lies. -/
noncomputable def reg22 : Code := goL (goL (goL (goR (goL (goR (goR (goR (goR (goR (goR (goR (goR (goR (Try.f3.body.getD .skip))))))))))))))
set_option maxRecDepth 100000 in
set_option maxHeartbeats 40000000 in
theorem body22 {u0 u1 u2 u3 u4 u5 u6 u7 u8 u9 u10 u11 u12 u13 u18 u19 u20 u21 u22 u23 u24 u25 u26 u27 u28 u29 u30 u31 u32 u33 u34 u35 u36 u37 u38 u39 u40 u41 u42 u43 u44 u45 u46 u47 u48 u49 u50 u51 u52 u53 u54 u55 u56 u57 u58 u59 u60 u61 u62 u63 u64 u65 u66 u67 u68 u69 u70 u71 u72 u73 u74 u75 u76 u77 u78 u79 u80 u81 u82 u83 u84 u85 u86 u87 u88 u89 u90 u91 u92 u93 u94 u95 u96 u97 u98 u99 u100 u101 u102 u103 u104 u105 u106 u107 u108 u109 u110 u111 u112 u113 u114 u115 u116 u117 u118 u119 u120 u121 : Value} (l m : Nat) (W : World) (f k : Int) (g B : Nat) (v v' : Value) (xs ys : List Int) (P0 : Pair W W g B v v' v v' xs ys) (hn1 : xs.length ≤ 1000) (hn2 : ys.length ≤ 1000) (Q : Exit → Go.Act → World → Prop)
    (hQ : ∀ c a a' w, Q (.panic c) a w → Q (.panic c) a' w)
    (hfin : ∀ a' v1 v2 w3, Pair W w3 g B v v' v1 v2 (xs ++ [IntKind.i64.wrap f]) (ys ++ [k]) → Q .normal a' ((w3.setCell ⟨g + 2, 0, none⟩ v1).setCell ⟨g + 3, 0, none⟩ v2)) :
    reg22.wpIn (FW.inRound l) m Try.prog Q ⟨#[u0, u1, u2, u3, u4, u5, u6, u7, u8, u9, u10, u11, u12, u13, .pointer (some ⟨g + 2, 0, none⟩), .pointer (some ⟨g + 3, 0, none⟩), .int .u32 f, .int .i64 k, u18, u19, u20, u21, u22, u23, u24, u25, u26, u27, u28, u29, u30, u31, u32, u33, u34, u35, u36, u37, u38, u39, u40, u41, u42, u43, u44, u45, u46, u47, u48, u49, u50, u51, u52, u53, u54, u55, u56, u57, u58, u59, u60, u61, u62, u63, u64, u65, u66, u67, u68, u69, u70, u71, u72, u73, u74, u75, u76, u77, u78, u79, u80, u81, u82, u83, u84, u85, u86, u87, u88, u89, u90, u91, u92, u93, u94, u95, u96, u97, u98, u99, u100, u101, u102, u103, u104, u105, u106, u107, u108, u109, u110, u111, u112, u113, u114, u115, u116, u117, u118, u119, u120, u121], []⟩ W := by
  have hla : ∀ q, v.ownBlock = some q → q < W.heap.size := fun q e => (own_base P0.o1 e).2
  change (Code.region _ _ _).wpIn _ _ _ _ _ _
  refine wpIn_region_any (by kernel_rfl) ?_
  change wpAnyIn _ _ _ _ _ _ _ _ _ (World.drew W)
  refine wpAnyIn_round rfl (fun i o ho c => ?_) _ _ _ _ ?_
  · have hi : i < 11 := (Array.getElem?_eq_some_iff.1 ho).1
    match i, hi, ho with
    | 0, _, ho | 1, _, ho | 2, _, ho | 3, _, ho | 4, _, ho | 5, _, ho | 6, _, ho | 7, _, ho | 8, _, ho | 9, _, ho | 10, _, ho => cases ho; intro h; cases h
  refine wpAnyIn_take (i := 1) (v := ?_) rfl rfl (by kernel_rfl) (by kernel_rfl) (by kernel_rfl) (fun c _ _ h => hQ c _ _ _ h) ⟨Or.inl ⟨by rfl, ?_⟩, fun _ => rfl⟩ ?_
  rotate_left
  · intro w; go_simp; try with_reducible rfl
  refine wpAnyIn_take (i := 2) (v := ?_) rfl rfl (by kernel_rfl) (by kernel_rfl) (by kernel_rfl) (fun c _ _ h => hQ c _ _ _ h) ⟨Or.inl ⟨by rfl, ?_⟩, fun _ => rfl⟩ ?_
  rotate_left
  · intro w; go_simp; try with_reducible rfl
  refine wpAnyIn_take (i := 6) (v := ?_) rfl rfl (by kernel_rfl) (by kernel_rfl) (by kernel_rfl) (fun c _ _ h => hQ c _ _ _ h) ⟨Or.inl ⟨by rfl, ?_⟩, fun _ => rfl⟩ ?_
  rotate_left
  · intro w; go_simp; try with_reducible rfl
  refine wpAnyIn_ready (rs := [0, 3, 5, 7]) (by kernel_rfl) (by simp) ?_
  refine AllReadyIn.cons rfl (fun K hK => ?_) ?_
  · skip
    have c14 : (W.drew).cell? ⟨g + 2, 0, none⟩ = some v := (P0.below (Below.drew (Below.refl _ _))).c1
    go_simp
    refine hK _ _ ?_; clear hK K
    refine wpAnyIn_ready (rs := [3, 5, 7]) (by kernel_rfl) (by simp) ?_
    refine AllReadyIn.cons rfl (fun K hK => ?_) ?_
    · skip
      go_simp
      refine hK _ _ ?_; clear hK K
      refine wpAnyIn_ready (rs := [4, 5, 7]) (by kernel_rfl) (by simp) ?_
      refine AllReadyIn.cons rfl (fun K hK => ?_) ?_
      · skip
        refine app1I (P0.below (TmA.below_alloc (Below.drew (Below.refl _ _)) _)) (.tmp 68) (.tmp 71) rfl rfl rfl _ (IntKind.i64.wrap f) rfl (by first | exact new_a (by first | rfl | simp) | exact new_b (by first | rfl | simp)) hn1 hla ?_
        intro v1 w1 P1 hk1
        obtain ⟨A1, e1, rfl, _⟩ := Base.slice_of_row P1.o1
        go_simp
        refine hK _ _ ?_; clear hK K
        refine wpAnyIn_ready (rs := [5, 7]) (by kernel_rfl) (by simp) ?_
        refine AllReadyIn.cons rfl (fun K hK => ?_) ?_
        · skip
          have c14 : (w1).cell? ⟨g + 3, 0, none⟩ = some v' := (P1.below (Below.refl _ _)).c2
          go_simp
          refine hK _ _ ?_; clear hK K
          refine wpAnyIn_ready (rs := [7]) (by kernel_rfl) (by simp) ?_
          refine AllReadyIn.cons rfl (fun K hK => ?_) ?_
          · skip
            go_simp
            refine hK _ _ ?_; clear hK K
            refine wpAnyIn_ready (rs := [8]) (by kernel_rfl) (by simp) ?_
            refine AllReadyIn.cons rfl (fun K hK => ?_) ?_
            · skip
              refine app2I (P1.below (TmA.below_alloc (Below.refl _ _) _)) (.tmp 73) (.tmp 75) rfl rfl rfl _ k rfl (by first | exact new_a (by first | rfl | simp) | exact hk1 _ _ (by simp) (new_a (by first | rfl | simp)) | exact hk1 _ _ (by simp) (new_b (by first | rfl | simp))) hn2 ?_
              intro v2 w2 P2
              obtain ⟨A2, e2, rfl, _⟩ := Base.slice_of_row P2.o2
              go_simp
              refine hK _ _ ?_; clear hK K
              refine wpAnyIn_ready (rs := [9]) (by kernel_rfl) (by simp) ?_
              refine AllReadyIn.cons rfl (fun K hK => ?_) ?_
              · skip
                have c14 := P2.c1; have f14 := P2.f1; have c15 := P2.c2; have f15 := P2.f2
                go_simp
                refine hK _ _ ?_; clear hK K
                refine wpAnyIn_ready (rs := [10]) (by kernel_rfl) (by simp) ?_
                refine AllReadyIn.cons rfl (fun K hK => ?_) AllReadyIn.nil
                go_simp
                refine hK _ _ ?_; clear hK K
                refine wpAnyIn_done (by kernel_rfl) ?_ _
                exact hfin _ _ _ _ (by simpa using P2)
              exact AllReadyIn.nil
            exact AllReadyIn.nil
          exact AllReadyIn.nil
        refine AllReadyIn.cons rfl (fun K hK => ?_) ?_
        · skip
          go_simp
          refine hK _ _ ?_; clear hK K
          refine wpAnyIn_ready (rs := [5]) (by kernel_rfl) (by simp) ?_
          refine AllReadyIn.cons rfl (fun K hK => ?_) ?_
          · skip
            have c14 : ((w1.alloc (.cells #[.int .i64 k] 3))).cell? ⟨g + 3, 0, none⟩ = some v' := (P1.below (TmA.below_alloc (Below.refl _ _) _)).c2
            go_simp
            refine hK _ _ ?_; clear hK K
            refine wpAnyIn_ready (rs := [8]) (by kernel_rfl) (by simp) ?_
            refine AllReadyIn.cons rfl (fun K hK => ?_) ?_
            · skip
              refine app2I (P1.below (TmA.below_alloc (Below.refl _ _) _)) (.tmp 73) (.tmp 75) rfl rfl rfl _ k rfl (by first | exact new_a (by first | rfl | simp) | exact hk1 _ _ (by simp) (new_a (by first | rfl | simp)) | exact hk1 _ _ (by simp) (new_b (by first | rfl | simp))) hn2 ?_
              intro v2 w2 P2
              obtain ⟨A2, e2, rfl, _⟩ := Base.slice_of_row P2.o2
              go_simp
              refine hK _ _ ?_; clear hK K
              refine wpAnyIn_ready (rs := [9]) (by kernel_rfl) (by simp) ?_
              refine AllReadyIn.cons rfl (fun K hK => ?_) ?_
              · skip
                have c14 := P2.c1; have f14 := P2.f1; have c15 := P2.c2; have f15 := P2.f2
                go_simp
                refine hK _ _ ?_; clear hK K
                refine wpAnyIn_ready (rs := [10]) (by kernel_rfl) (by simp) ?_
                refine AllReadyIn.cons rfl (fun K hK => ?_) AllReadyIn.nil
                go_simp
                refine hK _ _ ?_; clear hK K
                refine wpAnyIn_done (by kernel_rfl) ?_ _
                exact hfin _ _ _ _ (by simpa using P2)
              exact AllReadyIn.nil
            exact AllReadyIn.nil
          exact AllReadyIn.nil
        exact AllReadyIn.nil
      refine AllReadyIn.cons rfl (fun K hK => ?_) ?_
      · skip
        have c14 : ((W.drew.alloc (.cells #[.int .i64 (IntKind.i64.wrap f)] 3))).cell? ⟨g + 3, 0, none⟩ = some v' := (P0.below (TmA.below_alloc (Below.drew (Below.refl _ _)) _)).c2
        have c14b : ((W.alloc (.cells #[.int .i64 (IntKind.i64.wrap f)] 3))).cell? ⟨g + 3, 0, none⟩ = some v' := c14
        go_simp
        refine hK _ _ ?_; clear hK K
        refine wpAnyIn_ready (rs := [4, 7]) (by kernel_rfl) (by simp) ?_
        refine AllReadyIn.cons rfl (fun K hK => ?_) ?_
        · skip
          refine app1I (P0.below (TmA.below_alloc (Below.drew (Below.refl _ _)) _)) (.tmp 68) (.tmp 71) rfl rfl rfl _ (IntKind.i64.wrap f) rfl (by first | exact new_a (by first | rfl | simp) | exact new_b (by first | rfl | simp)) hn1 hla ?_
          intro v1 w1 P1 hk1
          obtain ⟨A1, e1, rfl, _⟩ := Base.slice_of_row P1.o1
          go_simp
          refine hK _ _ ?_; clear hK K
          refine wpAnyIn_ready (rs := [7]) (by kernel_rfl) (by simp) ?_
          refine AllReadyIn.cons rfl (fun K hK => ?_) ?_
          · skip
            go_simp
            refine hK _ _ ?_; clear hK K
            refine wpAnyIn_ready (rs := [8]) (by kernel_rfl) (by simp) ?_
            refine AllReadyIn.cons rfl (fun K hK => ?_) ?_
            · skip
              refine app2I (P1.below (TmA.below_alloc (Below.refl _ _) _)) (.tmp 73) (.tmp 75) rfl rfl rfl _ k rfl (by first | exact new_a (by first | rfl | simp) | exact hk1 _ _ (by simp) (new_a (by first | rfl | simp)) | exact hk1 _ _ (by simp) (new_b (by first | rfl | simp))) hn2 ?_
              intro v2 w2 P2
              obtain ⟨A2, e2, rfl, _⟩ := Base.slice_of_row P2.o2
              go_simp
              refine hK _ _ ?_; clear hK K
              refine wpAnyIn_ready (rs := [9]) (by kernel_rfl) (by simp) ?_
              refine AllReadyIn.cons rfl (fun K hK => ?_) ?_
              · skip
                have c14 := P2.c1; have f14 := P2.f1; have c15 := P2.c2; have f15 := P2.f2
                go_simp
                refine hK _ _ ?_; clear hK K
                refine wpAnyIn_ready (rs := [10]) (by kernel_rfl) (by simp) ?_
                refine AllReadyIn.cons rfl (fun K hK => ?_) AllReadyIn.nil
                go_simp
                refine hK _ _ ?_; clear hK K
                refine wpAnyIn_done (by kernel_rfl) ?_ _
                exact hfin _ _ _ _ (by simpa using P2)
              exact AllReadyIn.nil
            exact AllReadyIn.nil
          exact AllReadyIn.nil
        refine AllReadyIn.cons rfl (fun K hK => ?_) ?_
        · skip
          go_simp
          refine hK _ _ ?_; clear hK K
          refine wpAnyIn_ready (rs := [4]) (by kernel_rfl) (by simp) ?_
          refine AllReadyIn.cons rfl (fun K hK => ?_) ?_
          · skip
            refine app1I (P0.below (TmA.below_alloc (TmA.below_alloc (Below.drew (Below.refl _ _)) _) _)) (.tmp 68) (.tmp 71) rfl rfl rfl _ (IntKind.i64.wrap f) rfl (by first | exact new_a (by first | rfl | simp) | exact new_b (by first | rfl | simp)) hn1 hla ?_
            intro v1 w1 P1 hk1
            obtain ⟨A1, e1, rfl, _⟩ := Base.slice_of_row P1.o1
            go_simp
            refine hK _ _ ?_; clear hK K
            refine wpAnyIn_ready (rs := [8]) (by kernel_rfl) (by simp) ?_
            refine AllReadyIn.cons rfl (fun K hK => ?_) ?_
            · skip
              refine app2I (P1.below (Below.refl _ _)) (.tmp 73) (.tmp 75) rfl rfl rfl _ k rfl (by first | exact new_a (by first | rfl | simp) | exact hk1 _ _ (by simp) (new_a (by first | rfl | simp)) | exact hk1 _ _ (by simp) (new_b (by first | rfl | simp))) hn2 ?_
              intro v2 w2 P2
              obtain ⟨A2, e2, rfl, _⟩ := Base.slice_of_row P2.o2
              go_simp
              refine hK _ _ ?_; clear hK K
              refine wpAnyIn_ready (rs := [9]) (by kernel_rfl) (by simp) ?_
              refine AllReadyIn.cons rfl (fun K hK => ?_) ?_
              · skip
                have c14 := P2.c1; have f14 := P2.f1; have c15 := P2.c2; have f15 := P2.f2
                go_simp
                refine hK _ _ ?_; clear hK K
                refine wpAnyIn_ready (rs := [10]) (by kernel_rfl) (by simp) ?_
                refine AllReadyIn.cons rfl (fun K hK => ?_) AllReadyIn.nil
                go_simp
                refine hK _ _ ?_; clear hK K
                refine wpAnyIn_done (by kernel_rfl) ?_ _
                exact hfin _ _ _ _ (by simpa using P2)
              exact AllReadyIn.nil
            exact AllReadyIn.nil
          exact AllReadyIn.nil
        exact AllReadyIn.nil
      refine AllReadyIn.cons rfl (fun K hK => ?_) ?_
      · skip
        go_simp
        refine hK _ _ ?_; clear hK K
        refine wpAnyIn_ready (rs := [4, 5]) (by kernel_rfl) (by simp) ?_
        refine AllReadyIn.cons rfl (fun K hK => ?_) ?_
        · skip
          refine app1I (P0.below (TmA.below_alloc (TmA.below_alloc (Below.drew (Below.refl _ _)) _) _)) (.tmp 68) (.tmp 71) rfl rfl rfl _ (IntKind.i64.wrap f) rfl (by first | exact new_a (by first | rfl | simp) | exact new_b (by first | rfl | simp)) hn1 hla ?_
          intro v1 w1 P1 hk1
          obtain ⟨A1, e1, rfl, _⟩ := Base.slice_of_row P1.o1
          go_simp
          refine hK _ _ ?_; clear hK K
          refine wpAnyIn_ready (rs := [5]) (by kernel_rfl) (by simp) ?_
          refine AllReadyIn.cons rfl (fun K hK => ?_) ?_
          · skip
            have c14 : (w1).cell? ⟨g + 3, 0, none⟩ = some v' := (P1.below (Below.refl _ _)).c2
            go_simp
            refine hK _ _ ?_; clear hK K
            refine wpAnyIn_ready (rs := [8]) (by kernel_rfl) (by simp) ?_
            refine AllReadyIn.cons rfl (fun K hK => ?_) ?_
            · skip
              refine app2I (P1.below (Below.refl _ _)) (.tmp 73) (.tmp 75) rfl rfl rfl _ k rfl (by first | exact new_a (by first | rfl | simp) | exact hk1 _ _ (by simp) (new_a (by first | rfl | simp)) | exact hk1 _ _ (by simp) (new_b (by first | rfl | simp))) hn2 ?_
              intro v2 w2 P2
              obtain ⟨A2, e2, rfl, _⟩ := Base.slice_of_row P2.o2
              go_simp
              refine hK _ _ ?_; clear hK K
              refine wpAnyIn_ready (rs := [9]) (by kernel_rfl) (by simp) ?_
              refine AllReadyIn.cons rfl (fun K hK => ?_) ?_
              · skip
                have c14 := P2.c1; have f14 := P2.f1; have c15 := P2.c2; have f15 := P2.f2
                go_simp
                refine hK _ _ ?_; clear hK K
                refine wpAnyIn_ready (rs := [10]) (by kernel_rfl) (by simp) ?_
                refine AllReadyIn.cons rfl (fun K hK => ?_) AllReadyIn.nil
                go_simp
                refine hK _ _ ?_; clear hK K
                refine wpAnyIn_done (by kernel_rfl) ?_ _
                exact hfin _ _ _ _ (by simpa using P2)
              exact AllReadyIn.nil
            exact AllReadyIn.nil
          exact AllReadyIn.nil
        refine AllReadyIn.cons rfl (fun K hK => ?_) ?_
        · skip
          have c14 : (((W.drew.alloc (.cells #[.int .i64 (IntKind.i64.wrap f)] 3)).alloc (.cells #[.int .i64 k] 3))).cell? ⟨g + 3, 0, none⟩ = some v' := (P0.below (TmA.below_alloc (TmA.below_alloc (Below.drew (Below.refl _ _)) _) _)).c2
          have c14b : (((W.alloc (.cells #[.int .i64 (IntKind.i64.wrap f)] 3)).alloc (.cells #[.int .i64 k] 3))).cell? ⟨g + 3, 0, none⟩ = some v' := c14
          go_simp
          refine hK _ _ ?_; clear hK K
          refine wpAnyIn_ready (rs := [4]) (by kernel_rfl) (by simp) ?_
          refine AllReadyIn.cons rfl (fun K hK => ?_) ?_
          · skip
            refine app1I (P0.below (TmA.below_alloc (TmA.below_alloc (Below.drew (Below.refl _ _)) _) _)) (.tmp 68) (.tmp 71) rfl rfl rfl _ (IntKind.i64.wrap f) rfl (by first | exact new_a (by first | rfl | simp) | exact new_b (by first | rfl | simp)) hn1 hla ?_
            intro v1 w1 P1 hk1
            obtain ⟨A1, e1, rfl, _⟩ := Base.slice_of_row P1.o1
            go_simp
            refine hK _ _ ?_; clear hK K
            refine wpAnyIn_ready (rs := [8]) (by kernel_rfl) (by simp) ?_
            refine AllReadyIn.cons rfl (fun K hK => ?_) ?_
            · skip
              refine app2I (P1.below (Below.refl _ _)) (.tmp 73) (.tmp 75) rfl rfl rfl _ k rfl (by first | exact new_a (by first | rfl | simp) | exact hk1 _ _ (by simp) (new_a (by first | rfl | simp)) | exact hk1 _ _ (by simp) (new_b (by first | rfl | simp))) hn2 ?_
              intro v2 w2 P2
              obtain ⟨A2, e2, rfl, _⟩ := Base.slice_of_row P2.o2
              go_simp
              refine hK _ _ ?_; clear hK K
              refine wpAnyIn_ready (rs := [9]) (by kernel_rfl) (by simp) ?_
              refine AllReadyIn.cons rfl (fun K hK => ?_) ?_
              · skip
                have c14 := P2.c1; have f14 := P2.f1; have c15 := P2.c2; have f15 := P2.f2
                go_simp
                refine hK _ _ ?_; clear hK K
                refine wpAnyIn_ready (rs := [10]) (by kernel_rfl) (by simp) ?_
                refine AllReadyIn.cons rfl (fun K hK => ?_) AllReadyIn.nil
                go_simp
                refine hK _ _ ?_; clear hK K
                refine wpAnyIn_done (by kernel_rfl) ?_ _
                exact hfin _ _ _ _ (by simpa using P2)
              exact AllReadyIn.nil
            exact AllReadyIn.nil
          exact AllReadyIn.nil
        exact AllReadyIn.nil
      exact AllReadyIn.nil
    refine AllReadyIn.cons rfl (fun K hK => ?_) ?_
    · skip
      have c14 : (W.drew).cell? ⟨g + 3, 0, none⟩ = some v' := (P0.below (Below.drew (Below.refl _ _))).c2
      go_simp
      refine hK _ _ ?_; clear hK K
      refine wpAnyIn_ready (rs := [3, 7]) (by kernel_rfl) (by simp) ?_
      refine AllReadyIn.cons rfl (fun K hK => ?_) ?_
      · skip
        go_simp
        refine hK _ _ ?_; clear hK K
        refine wpAnyIn_ready (rs := [4, 7]) (by kernel_rfl) (by simp) ?_
        refine AllReadyIn.cons rfl (fun K hK => ?_) ?_
        · skip
          refine app1I (P0.below (TmA.below_alloc (Below.drew (Below.refl _ _)) _)) (.tmp 68) (.tmp 71) rfl rfl rfl _ (IntKind.i64.wrap f) rfl (by first | exact new_a (by first | rfl | simp) | exact new_b (by first | rfl | simp)) hn1 hla ?_
          intro v1 w1 P1 hk1
          obtain ⟨A1, e1, rfl, _⟩ := Base.slice_of_row P1.o1
          go_simp
          refine hK _ _ ?_; clear hK K
          refine wpAnyIn_ready (rs := [7]) (by kernel_rfl) (by simp) ?_
          refine AllReadyIn.cons rfl (fun K hK => ?_) ?_
          · skip
            go_simp
            refine hK _ _ ?_; clear hK K
            refine wpAnyIn_ready (rs := [8]) (by kernel_rfl) (by simp) ?_
            refine AllReadyIn.cons rfl (fun K hK => ?_) ?_
            · skip
              refine app2I (P1.below (TmA.below_alloc (Below.refl _ _) _)) (.tmp 73) (.tmp 75) rfl rfl rfl _ k rfl (by first | exact new_a (by first | rfl | simp) | exact hk1 _ _ (by simp) (new_a (by first | rfl | simp)) | exact hk1 _ _ (by simp) (new_b (by first | rfl | simp))) hn2 ?_
              intro v2 w2 P2
              obtain ⟨A2, e2, rfl, _⟩ := Base.slice_of_row P2.o2
              go_simp
              refine hK _ _ ?_; clear hK K
              refine wpAnyIn_ready (rs := [9]) (by kernel_rfl) (by simp) ?_
              refine AllReadyIn.cons rfl (fun K hK => ?_) ?_
              · skip
                have c14 := P2.c1; have f14 := P2.f1; have c15 := P2.c2; have f15 := P2.f2
                go_simp
                refine hK _ _ ?_; clear hK K
                refine wpAnyIn_ready (rs := [10]) (by kernel_rfl) (by simp) ?_
                refine AllReadyIn.cons rfl (fun K hK => ?_) AllReadyIn.nil
                go_simp
                refine hK _ _ ?_; clear hK K
                refine wpAnyIn_done (by kernel_rfl) ?_ _
                exact hfin _ _ _ _ (by simpa using P2)
              exact AllReadyIn.nil
            exact AllReadyIn.nil
          exact AllReadyIn.nil
        refine AllReadyIn.cons rfl (fun K hK => ?_) ?_
        · skip
          go_simp
          refine hK _ _ ?_; clear hK K
          refine wpAnyIn_ready (rs := [4]) (by kernel_rfl) (by simp) ?_
          refine AllReadyIn.cons rfl (fun K hK => ?_) ?_
          · skip
            refine app1I (P0.below (TmA.below_alloc (TmA.below_alloc (Below.drew (Below.refl _ _)) _) _)) (.tmp 68) (.tmp 71) rfl rfl rfl _ (IntKind.i64.wrap f) rfl (by first | exact new_a (by first | rfl | simp) | exact new_b (by first | rfl | simp)) hn1 hla ?_
            intro v1 w1 P1 hk1
            obtain ⟨A1, e1, rfl, _⟩ := Base.slice_of_row P1.o1
            go_simp
            refine hK _ _ ?_; clear hK K
            refine wpAnyIn_ready (rs := [8]) (by kernel_rfl) (by simp) ?_
            refine AllReadyIn.cons rfl (fun K hK => ?_) ?_
            · skip
              refine app2I (P1.below (Below.refl _ _)) (.tmp 73) (.tmp 75) rfl rfl rfl _ k rfl (by first | exact new_a (by first | rfl | simp) | exact hk1 _ _ (by simp) (new_a (by first | rfl | simp)) | exact hk1 _ _ (by simp) (new_b (by first | rfl | simp))) hn2 ?_
              intro v2 w2 P2
              obtain ⟨A2, e2, rfl, _⟩ := Base.slice_of_row P2.o2
              go_simp
              refine hK _ _ ?_; clear hK K
              refine wpAnyIn_ready (rs := [9]) (by kernel_rfl) (by simp) ?_
              refine AllReadyIn.cons rfl (fun K hK => ?_) ?_
              · skip
                have c14 := P2.c1; have f14 := P2.f1; have c15 := P2.c2; have f15 := P2.f2
                go_simp
                refine hK _ _ ?_; clear hK K
                refine wpAnyIn_ready (rs := [10]) (by kernel_rfl) (by simp) ?_
                refine AllReadyIn.cons rfl (fun K hK => ?_) AllReadyIn.nil
                go_simp
                refine hK _ _ ?_; clear hK K
                refine wpAnyIn_done (by kernel_rfl) ?_ _
                exact hfin _ _ _ _ (by simpa using P2)
              exact AllReadyIn.nil
            exact AllReadyIn.nil
          exact AllReadyIn.nil
        exact AllReadyIn.nil
      refine AllReadyIn.cons rfl (fun K hK => ?_) ?_
      · skip
        go_simp
        refine hK _ _ ?_; clear hK K
        refine wpAnyIn_ready (rs := [3]) (by kernel_rfl) (by simp) ?_
        refine AllReadyIn.cons rfl (fun K hK => ?_) ?_
        · skip
          go_simp
          refine hK _ _ ?_; clear hK K
          refine wpAnyIn_ready (rs := [4]) (by kernel_rfl) (by simp) ?_
          refine AllReadyIn.cons rfl (fun K hK => ?_) ?_
          · skip
            refine app1I (P0.below (TmA.below_alloc (TmA.below_alloc (Below.drew (Below.refl _ _)) _) _)) (.tmp 68) (.tmp 71) rfl rfl rfl _ (IntKind.i64.wrap f) rfl (by first | exact new_a (by first | rfl | simp) | exact new_b (by first | rfl | simp)) hn1 hla ?_
            intro v1 w1 P1 hk1
            obtain ⟨A1, e1, rfl, _⟩ := Base.slice_of_row P1.o1
            go_simp
            refine hK _ _ ?_; clear hK K
            refine wpAnyIn_ready (rs := [8]) (by kernel_rfl) (by simp) ?_
            refine AllReadyIn.cons rfl (fun K hK => ?_) ?_
            · skip
              refine app2I (P1.below (Below.refl _ _)) (.tmp 73) (.tmp 75) rfl rfl rfl _ k rfl (by first | exact new_a (by first | rfl | simp) | exact hk1 _ _ (by simp) (new_a (by first | rfl | simp)) | exact hk1 _ _ (by simp) (new_b (by first | rfl | simp))) hn2 ?_
              intro v2 w2 P2
              obtain ⟨A2, e2, rfl, _⟩ := Base.slice_of_row P2.o2
              go_simp
              refine hK _ _ ?_; clear hK K
              refine wpAnyIn_ready (rs := [9]) (by kernel_rfl) (by simp) ?_
              refine AllReadyIn.cons rfl (fun K hK => ?_) ?_
              · skip
                have c14 := P2.c1; have f14 := P2.f1; have c15 := P2.c2; have f15 := P2.f2
                go_simp
                refine hK _ _ ?_; clear hK K
                refine wpAnyIn_ready (rs := [10]) (by kernel_rfl) (by simp) ?_
                refine AllReadyIn.cons rfl (fun K hK => ?_) AllReadyIn.nil
                go_simp
                refine hK _ _ ?_; clear hK K
                refine wpAnyIn_done (by kernel_rfl) ?_ _
                exact hfin _ _ _ _ (by simpa using P2)
              exact AllReadyIn.nil
            exact AllReadyIn.nil
          exact AllReadyIn.nil
        exact AllReadyIn.nil
      exact AllReadyIn.nil
    refine AllReadyIn.cons rfl (fun K hK => ?_) ?_
    · skip
      go_simp
      refine hK _ _ ?_; clear hK K
      refine wpAnyIn_ready (rs := [3, 5]) (by kernel_rfl) (by simp) ?_
      refine AllReadyIn.cons rfl (fun K hK => ?_) ?_
      · skip
        go_simp
        refine hK _ _ ?_; clear hK K
        refine wpAnyIn_ready (rs := [4, 5]) (by kernel_rfl) (by simp) ?_
        refine AllReadyIn.cons rfl (fun K hK => ?_) ?_
        · skip
          refine app1I (P0.below (TmA.below_alloc (TmA.below_alloc (Below.drew (Below.refl _ _)) _) _)) (.tmp 68) (.tmp 71) rfl rfl rfl _ (IntKind.i64.wrap f) rfl (by first | exact new_a (by first | rfl | simp) | exact new_b (by first | rfl | simp)) hn1 hla ?_
          intro v1 w1 P1 hk1
          obtain ⟨A1, e1, rfl, _⟩ := Base.slice_of_row P1.o1
          go_simp
          refine hK _ _ ?_; clear hK K
          refine wpAnyIn_ready (rs := [5]) (by kernel_rfl) (by simp) ?_
          refine AllReadyIn.cons rfl (fun K hK => ?_) ?_
          · skip
            have c14 : (w1).cell? ⟨g + 3, 0, none⟩ = some v' := (P1.below (Below.refl _ _)).c2
            go_simp
            refine hK _ _ ?_; clear hK K
            refine wpAnyIn_ready (rs := [8]) (by kernel_rfl) (by simp) ?_
            refine AllReadyIn.cons rfl (fun K hK => ?_) ?_
            · skip
              refine app2I (P1.below (Below.refl _ _)) (.tmp 73) (.tmp 75) rfl rfl rfl _ k rfl (by first | exact new_a (by first | rfl | simp) | exact hk1 _ _ (by simp) (new_a (by first | rfl | simp)) | exact hk1 _ _ (by simp) (new_b (by first | rfl | simp))) hn2 ?_
              intro v2 w2 P2
              obtain ⟨A2, e2, rfl, _⟩ := Base.slice_of_row P2.o2
              go_simp
              refine hK _ _ ?_; clear hK K
              refine wpAnyIn_ready (rs := [9]) (by kernel_rfl) (by simp) ?_
              refine AllReadyIn.cons rfl (fun K hK => ?_) ?_
              · skip
                have c14 := P2.c1; have f14 := P2.f1; have c15 := P2.c2; have f15 := P2.f2
                go_simp
                refine hK _ _ ?_; clear hK K
                refine wpAnyIn_ready (rs := [10]) (by kernel_rfl) (by simp) ?_
                refine AllReadyIn.cons rfl (fun K hK => ?_) AllReadyIn.nil
                go_simp
                refine hK _ _ ?_; clear hK K
                refine wpAnyIn_done (by kernel_rfl) ?_ _
                exact hfin _ _ _ _ (by simpa using P2)
              exact AllReadyIn.nil
            exact AllReadyIn.nil
          exact AllReadyIn.nil
        refine AllReadyIn.cons rfl (fun K hK => ?_) ?_
        · skip
          have c14 : (((W.drew.alloc (.cells #[.int .i64 k] 3)).alloc (.cells #[.int .i64 (IntKind.i64.wrap f)] 3))).cell? ⟨g + 3, 0, none⟩ = some v' := (P0.below (TmA.below_alloc (TmA.below_alloc (Below.drew (Below.refl _ _)) _) _)).c2
          have c14b : (((W.alloc (.cells #[.int .i64 k] 3)).alloc (.cells #[.int .i64 (IntKind.i64.wrap f)] 3))).cell? ⟨g + 3, 0, none⟩ = some v' := c14
          go_simp
          refine hK _ _ ?_; clear hK K
          refine wpAnyIn_ready (rs := [4]) (by kernel_rfl) (by simp) ?_
          refine AllReadyIn.cons rfl (fun K hK => ?_) ?_
          · skip
            refine app1I (P0.below (TmA.below_alloc (TmA.below_alloc (Below.drew (Below.refl _ _)) _) _)) (.tmp 68) (.tmp 71) rfl rfl rfl _ (IntKind.i64.wrap f) rfl (by first | exact new_a (by first | rfl | simp) | exact new_b (by first | rfl | simp)) hn1 hla ?_
            intro v1 w1 P1 hk1
            obtain ⟨A1, e1, rfl, _⟩ := Base.slice_of_row P1.o1
            go_simp
            refine hK _ _ ?_; clear hK K
            refine wpAnyIn_ready (rs := [8]) (by kernel_rfl) (by simp) ?_
            refine AllReadyIn.cons rfl (fun K hK => ?_) ?_
            · skip
              refine app2I (P1.below (Below.refl _ _)) (.tmp 73) (.tmp 75) rfl rfl rfl _ k rfl (by first | exact new_a (by first | rfl | simp) | exact hk1 _ _ (by simp) (new_a (by first | rfl | simp)) | exact hk1 _ _ (by simp) (new_b (by first | rfl | simp))) hn2 ?_
              intro v2 w2 P2
              obtain ⟨A2, e2, rfl, _⟩ := Base.slice_of_row P2.o2
              go_simp
              refine hK _ _ ?_; clear hK K
              refine wpAnyIn_ready (rs := [9]) (by kernel_rfl) (by simp) ?_
              refine AllReadyIn.cons rfl (fun K hK => ?_) ?_
              · skip
                have c14 := P2.c1; have f14 := P2.f1; have c15 := P2.c2; have f15 := P2.f2
                go_simp
                refine hK _ _ ?_; clear hK K
                refine wpAnyIn_ready (rs := [10]) (by kernel_rfl) (by simp) ?_
                refine AllReadyIn.cons rfl (fun K hK => ?_) AllReadyIn.nil
                go_simp
                refine hK _ _ ?_; clear hK K
                refine wpAnyIn_done (by kernel_rfl) ?_ _
                exact hfin _ _ _ _ (by simpa using P2)
              exact AllReadyIn.nil
            exact AllReadyIn.nil
          exact AllReadyIn.nil
        exact AllReadyIn.nil
      refine AllReadyIn.cons rfl (fun K hK => ?_) ?_
      · skip
        have c14 : ((W.drew.alloc (.cells #[.int .i64 k] 3))).cell? ⟨g + 3, 0, none⟩ = some v' := (P0.below (TmA.below_alloc (Below.drew (Below.refl _ _)) _)).c2
        have c14b : ((W.alloc (.cells #[.int .i64 k] 3))).cell? ⟨g + 3, 0, none⟩ = some v' := c14
        go_simp
        refine hK _ _ ?_; clear hK K
        refine wpAnyIn_ready (rs := [3]) (by kernel_rfl) (by simp) ?_
        refine AllReadyIn.cons rfl (fun K hK => ?_) ?_
        · skip
          go_simp
          refine hK _ _ ?_; clear hK K
          refine wpAnyIn_ready (rs := [4]) (by kernel_rfl) (by simp) ?_
          refine AllReadyIn.cons rfl (fun K hK => ?_) ?_
          · skip
            refine app1I (P0.below (TmA.below_alloc (TmA.below_alloc (Below.drew (Below.refl _ _)) _) _)) (.tmp 68) (.tmp 71) rfl rfl rfl _ (IntKind.i64.wrap f) rfl (by first | exact new_a (by first | rfl | simp) | exact new_b (by first | rfl | simp)) hn1 hla ?_
            intro v1 w1 P1 hk1
            obtain ⟨A1, e1, rfl, _⟩ := Base.slice_of_row P1.o1
            go_simp
            refine hK _ _ ?_; clear hK K
            refine wpAnyIn_ready (rs := [8]) (by kernel_rfl) (by simp) ?_
            refine AllReadyIn.cons rfl (fun K hK => ?_) ?_
            · skip
              refine app2I (P1.below (Below.refl _ _)) (.tmp 73) (.tmp 75) rfl rfl rfl _ k rfl (by first | exact new_a (by first | rfl | simp) | exact hk1 _ _ (by simp) (new_a (by first | rfl | simp)) | exact hk1 _ _ (by simp) (new_b (by first | rfl | simp))) hn2 ?_
              intro v2 w2 P2
              obtain ⟨A2, e2, rfl, _⟩ := Base.slice_of_row P2.o2
              go_simp
              refine hK _ _ ?_; clear hK K
              refine wpAnyIn_ready (rs := [9]) (by kernel_rfl) (by simp) ?_
              refine AllReadyIn.cons rfl (fun K hK => ?_) ?_
              · skip
                have c14 := P2.c1; have f14 := P2.f1; have c15 := P2.c2; have f15 := P2.f2
                go_simp
                refine hK _ _ ?_; clear hK K
                refine wpAnyIn_ready (rs := [10]) (by kernel_rfl) (by simp) ?_
                refine AllReadyIn.cons rfl (fun K hK => ?_) AllReadyIn.nil
                go_simp
                refine hK _ _ ?_; clear hK K
                refine wpAnyIn_done (by kernel_rfl) ?_ _
                exact hfin _ _ _ _ (by simpa using P2)
              exact AllReadyIn.nil
            exact AllReadyIn.nil
          exact AllReadyIn.nil
        exact AllReadyIn.nil
      exact AllReadyIn.nil
    exact AllReadyIn.nil
  refine AllReadyIn.cons rfl (fun K hK => ?_) ?_
  · skip
    go_simp
    refine hK _ _ ?_; clear hK K
    refine wpAnyIn_ready (rs := [0, 5, 7]) (by kernel_rfl) (by simp) ?_
    refine AllReadyIn.cons rfl (fun K hK => ?_) ?_
    · skip
      have c14 : ((W.drew.alloc (.cells #[.int .i64 (IntKind.i64.wrap f)] 3))).cell? ⟨g + 2, 0, none⟩ = some v := (P0.below (TmA.below_alloc (Below.drew (Below.refl _ _)) _)).c1
      have c14b : ((W.alloc (.cells #[.int .i64 (IntKind.i64.wrap f)] 3))).cell? ⟨g + 2, 0, none⟩ = some v := c14
      go_simp
      refine hK _ _ ?_; clear hK K
      refine wpAnyIn_ready (rs := [4, 5, 7]) (by kernel_rfl) (by simp) ?_
      refine AllReadyIn.cons rfl (fun K hK => ?_) ?_
      · skip
        refine app1I (P0.below (TmA.below_alloc (Below.drew (Below.refl _ _)) _)) (.tmp 68) (.tmp 71) rfl rfl rfl _ (IntKind.i64.wrap f) rfl (by first | exact new_a (by first | rfl | simp) | exact new_b (by first | rfl | simp)) hn1 hla ?_
        intro v1 w1 P1 hk1
        obtain ⟨A1, e1, rfl, _⟩ := Base.slice_of_row P1.o1
        go_simp
        refine hK _ _ ?_; clear hK K
        refine wpAnyIn_ready (rs := [5, 7]) (by kernel_rfl) (by simp) ?_
        refine AllReadyIn.cons rfl (fun K hK => ?_) ?_
        · skip
          have c14 : (w1).cell? ⟨g + 3, 0, none⟩ = some v' := (P1.below (Below.refl _ _)).c2
          go_simp
          refine hK _ _ ?_; clear hK K
          refine wpAnyIn_ready (rs := [7]) (by kernel_rfl) (by simp) ?_
          refine AllReadyIn.cons rfl (fun K hK => ?_) ?_
          · skip
            go_simp
            refine hK _ _ ?_; clear hK K
            refine wpAnyIn_ready (rs := [8]) (by kernel_rfl) (by simp) ?_
            refine AllReadyIn.cons rfl (fun K hK => ?_) ?_
            · skip
              refine app2I (P1.below (TmA.below_alloc (Below.refl _ _) _)) (.tmp 73) (.tmp 75) rfl rfl rfl _ k rfl (by first | exact new_a (by first | rfl | simp) | exact hk1 _ _ (by simp) (new_a (by first | rfl | simp)) | exact hk1 _ _ (by simp) (new_b (by first | rfl | simp))) hn2 ?_
              intro v2 w2 P2
              obtain ⟨A2, e2, rfl, _⟩ := Base.slice_of_row P2.o2
              go_simp
              refine hK _ _ ?_; clear hK K
              refine wpAnyIn_ready (rs := [9]) (by kernel_rfl) (by simp) ?_
              refine AllReadyIn.cons rfl (fun K hK => ?_) ?_
              · skip
                have c14 := P2.c1; have f14 := P2.f1; have c15 := P2.c2; have f15 := P2.f2
                go_simp
                refine hK _ _ ?_; clear hK K
                refine wpAnyIn_ready (rs := [10]) (by kernel_rfl) (by simp) ?_
                refine AllReadyIn.cons rfl (fun K hK => ?_) AllReadyIn.nil
                go_simp
                refine hK _ _ ?_; clear hK K
                refine wpAnyIn_done (by kernel_rfl) ?_ _
                exact hfin _ _ _ _ (by simpa using P2)
              exact AllReadyIn.nil
            exact AllReadyIn.nil
          exact AllReadyIn.nil
        refine AllReadyIn.cons rfl (fun K hK => ?_) ?_
        · skip
          go_simp
          refine hK _ _ ?_; clear hK K
          refine wpAnyIn_ready (rs := [5]) (by kernel_rfl) (by simp) ?_
          refine AllReadyIn.cons rfl (fun K hK => ?_) ?_
          · skip
            have c14 : ((w1.alloc (.cells #[.int .i64 k] 3))).cell? ⟨g + 3, 0, none⟩ = some v' := (P1.below (TmA.below_alloc (Below.refl _ _) _)).c2
            go_simp
            refine hK _ _ ?_; clear hK K
            refine wpAnyIn_ready (rs := [8]) (by kernel_rfl) (by simp) ?_
            refine AllReadyIn.cons rfl (fun K hK => ?_) ?_
            · skip
              refine app2I (P1.below (TmA.below_alloc (Below.refl _ _) _)) (.tmp 73) (.tmp 75) rfl rfl rfl _ k rfl (by first | exact new_a (by first | rfl | simp) | exact hk1 _ _ (by simp) (new_a (by first | rfl | simp)) | exact hk1 _ _ (by simp) (new_b (by first | rfl | simp))) hn2 ?_
              intro v2 w2 P2
              obtain ⟨A2, e2, rfl, _⟩ := Base.slice_of_row P2.o2
              go_simp
              refine hK _ _ ?_; clear hK K
              refine wpAnyIn_ready (rs := [9]) (by kernel_rfl) (by simp) ?_
              refine AllReadyIn.cons rfl (fun K hK => ?_) ?_
              · skip
                have c14 := P2.c1; have f14 := P2.f1; have c15 := P2.c2; have f15 := P2.f2
                go_simp
                refine hK _ _ ?_; clear hK K
                refine wpAnyIn_ready (rs := [10]) (by kernel_rfl) (by simp) ?_
                refine AllReadyIn.cons rfl (fun K hK => ?_) AllReadyIn.nil
                go_simp
                refine hK _ _ ?_; clear hK K
                refine wpAnyIn_done (by kernel_rfl) ?_ _
                exact hfin _ _ _ _ (by simpa using P2)
              exact AllReadyIn.nil
            exact AllReadyIn.nil
          exact AllReadyIn.nil
        exact AllReadyIn.nil
      refine AllReadyIn.cons rfl (fun K hK => ?_) ?_
      · skip
        have c14 : ((W.drew.alloc (.cells #[.int .i64 (IntKind.i64.wrap f)] 3))).cell? ⟨g + 3, 0, none⟩ = some v' := (P0.below (TmA.below_alloc (Below.drew (Below.refl _ _)) _)).c2
        have c14b : ((W.alloc (.cells #[.int .i64 (IntKind.i64.wrap f)] 3))).cell? ⟨g + 3, 0, none⟩ = some v' := c14
        go_simp
        refine hK _ _ ?_; clear hK K
        refine wpAnyIn_ready (rs := [4, 7]) (by kernel_rfl) (by simp) ?_
        refine AllReadyIn.cons rfl (fun K hK => ?_) ?_
        · skip
          refine app1I (P0.below (TmA.below_alloc (Below.drew (Below.refl _ _)) _)) (.tmp 68) (.tmp 71) rfl rfl rfl _ (IntKind.i64.wrap f) rfl (by first | exact new_a (by first | rfl | simp) | exact new_b (by first | rfl | simp)) hn1 hla ?_
          intro v1 w1 P1 hk1
          obtain ⟨A1, e1, rfl, _⟩ := Base.slice_of_row P1.o1
          go_simp
          refine hK _ _ ?_; clear hK K
          refine wpAnyIn_ready (rs := [7]) (by kernel_rfl) (by simp) ?_
          refine AllReadyIn.cons rfl (fun K hK => ?_) ?_
          · skip
            go_simp
            refine hK _ _ ?_; clear hK K
            refine wpAnyIn_ready (rs := [8]) (by kernel_rfl) (by simp) ?_
            refine AllReadyIn.cons rfl (fun K hK => ?_) ?_
            · skip
              refine app2I (P1.below (TmA.below_alloc (Below.refl _ _) _)) (.tmp 73) (.tmp 75) rfl rfl rfl _ k rfl (by first | exact new_a (by first | rfl | simp) | exact hk1 _ _ (by simp) (new_a (by first | rfl | simp)) | exact hk1 _ _ (by simp) (new_b (by first | rfl | simp))) hn2 ?_
              intro v2 w2 P2
              obtain ⟨A2, e2, rfl, _⟩ := Base.slice_of_row P2.o2
              go_simp
              refine hK _ _ ?_; clear hK K
              refine wpAnyIn_ready (rs := [9]) (by kernel_rfl) (by simp) ?_
              refine AllReadyIn.cons rfl (fun K hK => ?_) ?_
              · skip
                have c14 := P2.c1; have f14 := P2.f1; have c15 := P2.c2; have f15 := P2.f2
                go_simp
                refine hK _ _ ?_; clear hK K
                refine wpAnyIn_ready (rs := [10]) (by kernel_rfl) (by simp) ?_
                refine AllReadyIn.cons rfl (fun K hK => ?_) AllReadyIn.nil
                go_simp
                refine hK _ _ ?_; clear hK K
                refine wpAnyIn_done (by kernel_rfl) ?_ _
                exact hfin _ _ _ _ (by simpa using P2)
              exact AllReadyIn.nil
            exact AllReadyIn.nil
          exact AllReadyIn.nil
        refine AllReadyIn.cons rfl (fun K hK => ?_) ?_
        · skip
          go_simp
          refine hK _ _ ?_; clear hK K
          refine wpAnyIn_ready (rs := [4]) (by kernel_rfl) (by simp) ?_
          refine AllReadyIn.cons rfl (fun K hK => ?_) ?_
          · skip
            refine app1I (P0.below (TmA.below_alloc (TmA.below_alloc (Below.drew (Below.refl _ _)) _) _)) (.tmp 68) (.tmp 71) rfl rfl rfl _ (IntKind.i64.wrap f) rfl (by first | exact new_a (by first | rfl | simp) | exact new_b (by first | rfl | simp)) hn1 hla ?_
            intro v1 w1 P1 hk1
            obtain ⟨A1, e1, rfl, _⟩ := Base.slice_of_row P1.o1
            go_simp
            refine hK _ _ ?_; clear hK K
            refine wpAnyIn_ready (rs := [8]) (by kernel_rfl) (by simp) ?_
            refine AllReadyIn.cons rfl (fun K hK => ?_) ?_
            · skip
              refine app2I (P1.below (Below.refl _ _)) (.tmp 73) (.tmp 75) rfl rfl rfl _ k rfl (by first | exact new_a (by first | rfl | simp) | exact hk1 _ _ (by simp) (new_a (by first | rfl | simp)) | exact hk1 _ _ (by simp) (new_b (by first | rfl | simp))) hn2 ?_
              intro v2 w2 P2
              obtain ⟨A2, e2, rfl, _⟩ := Base.slice_of_row P2.o2
              go_simp
              refine hK _ _ ?_; clear hK K
              refine wpAnyIn_ready (rs := [9]) (by kernel_rfl) (by simp) ?_
              refine AllReadyIn.cons rfl (fun K hK => ?_) ?_
              · skip
                have c14 := P2.c1; have f14 := P2.f1; have c15 := P2.c2; have f15 := P2.f2
                go_simp
                refine hK _ _ ?_; clear hK K
                refine wpAnyIn_ready (rs := [10]) (by kernel_rfl) (by simp) ?_
                refine AllReadyIn.cons rfl (fun K hK => ?_) AllReadyIn.nil
                go_simp
                refine hK _ _ ?_; clear hK K
                refine wpAnyIn_done (by kernel_rfl) ?_ _
                exact hfin _ _ _ _ (by simpa using P2)
              exact AllReadyIn.nil
            exact AllReadyIn.nil
          exact AllReadyIn.nil
        exact AllReadyIn.nil
      refine AllReadyIn.cons rfl (fun K hK => ?_) ?_
      · skip
        go_simp
        refine hK _ _ ?_; clear hK K
        refine wpAnyIn_ready (rs := [4, 5]) (by kernel_rfl) (by simp) ?_
        refine AllReadyIn.cons rfl (fun K hK => ?_) ?_
        · skip
          refine app1I (P0.below (TmA.below_alloc (TmA.below_alloc (Below.drew (Below.refl _ _)) _) _)) (.tmp 68) (.tmp 71) rfl rfl rfl _ (IntKind.i64.wrap f) rfl (by first | exact new_a (by first | rfl | simp) | exact new_b (by first | rfl | simp)) hn1 hla ?_
          intro v1 w1 P1 hk1
          obtain ⟨A1, e1, rfl, _⟩ := Base.slice_of_row P1.o1
          go_simp
          refine hK _ _ ?_; clear hK K
          refine wpAnyIn_ready (rs := [5]) (by kernel_rfl) (by simp) ?_
          refine AllReadyIn.cons rfl (fun K hK => ?_) ?_
          · skip
            have c14 : (w1).cell? ⟨g + 3, 0, none⟩ = some v' := (P1.below (Below.refl _ _)).c2
            go_simp
            refine hK _ _ ?_; clear hK K
            refine wpAnyIn_ready (rs := [8]) (by kernel_rfl) (by simp) ?_
            refine AllReadyIn.cons rfl (fun K hK => ?_) ?_
            · skip
              refine app2I (P1.below (Below.refl _ _)) (.tmp 73) (.tmp 75) rfl rfl rfl _ k rfl (by first | exact new_a (by first | rfl | simp) | exact hk1 _ _ (by simp) (new_a (by first | rfl | simp)) | exact hk1 _ _ (by simp) (new_b (by first | rfl | simp))) hn2 ?_
              intro v2 w2 P2
              obtain ⟨A2, e2, rfl, _⟩ := Base.slice_of_row P2.o2
              go_simp
              refine hK _ _ ?_; clear hK K
              refine wpAnyIn_ready (rs := [9]) (by kernel_rfl) (by simp) ?_
              refine AllReadyIn.cons rfl (fun K hK => ?_) ?_
              · skip
                have c14 := P2.c1; have f14 := P2.f1; have c15 := P2.c2; have f15 := P2.f2
                go_simp
                refine hK _ _ ?_; clear hK K
                refine wpAnyIn_ready (rs := [10]) (by kernel_rfl) (by simp) ?_
                refine AllReadyIn.cons rfl (fun K hK => ?_) AllReadyIn.nil
                go_simp
                refine hK _ _ ?_; clear hK K
                refine wpAnyIn_done (by kernel_rfl) ?_ _
                exact hfin _ _ _ _ (by simpa using P2)
              exact AllReadyIn.nil
            exact AllReadyIn.nil
          exact AllReadyIn.nil
        refine AllReadyIn.cons rfl (fun K hK => ?_) ?_
        · skip
          have c14 : (((W.drew.alloc (.cells #[.int .i64 (IntKind.i64.wrap f)] 3)).alloc (.cells #[.int .i64 k] 3))).cell? ⟨g + 3, 0, none⟩ = some v' := (P0.below (TmA.below_alloc (TmA.below_alloc (Below.drew (Below.refl _ _)) _) _)).c2
          have c14b : (((W.alloc (.cells #[.int .i64 (IntKind.i64.wrap f)] 3)).alloc (.cells #[.int .i64 k] 3))).cell? ⟨g + 3, 0, none⟩ = some v' := c14
          go_simp
          refine hK _ _ ?_; clear hK K
          refine wpAnyIn_ready (rs := [4]) (by kernel_rfl) (by simp) ?_
          refine AllReadyIn.cons rfl (fun K hK => ?_) ?_
          · skip
            refine app1I (P0.below (TmA.below_alloc (TmA.below_alloc (Below.drew (Below.refl _ _)) _) _)) (.tmp 68) (.tmp 71) rfl rfl rfl _ (IntKind.i64.wrap f) rfl (by first | exact new_a (by first | rfl | simp) | exact new_b (by first | rfl | simp)) hn1 hla ?_
            intro v1 w1 P1 hk1
            obtain ⟨A1, e1, rfl, _⟩ := Base.slice_of_row P1.o1
            go_simp
            refine hK _ _ ?_; clear hK K
            refine wpAnyIn_ready (rs := [8]) (by kernel_rfl) (by simp) ?_
            refine AllReadyIn.cons rfl (fun K hK => ?_) ?_
            · skip
              refine app2I (P1.below (Below.refl _ _)) (.tmp 73) (.tmp 75) rfl rfl rfl _ k rfl (by first | exact new_a (by first | rfl | simp) | exact hk1 _ _ (by simp) (new_a (by first | rfl | simp)) | exact hk1 _ _ (by simp) (new_b (by first | rfl | simp))) hn2 ?_
              intro v2 w2 P2
              obtain ⟨A2, e2, rfl, _⟩ := Base.slice_of_row P2.o2
              go_simp
              refine hK _ _ ?_; clear hK K
              refine wpAnyIn_ready (rs := [9]) (by kernel_rfl) (by simp) ?_
              refine AllReadyIn.cons rfl (fun K hK => ?_) ?_
              · skip
                have c14 := P2.c1; have f14 := P2.f1; have c15 := P2.c2; have f15 := P2.f2
                go_simp
                refine hK _ _ ?_; clear hK K
                refine wpAnyIn_ready (rs := [10]) (by kernel_rfl) (by simp) ?_
                refine AllReadyIn.cons rfl (fun K hK => ?_) AllReadyIn.nil
                go_simp
                refine hK _ _ ?_; clear hK K
                refine wpAnyIn_done (by kernel_rfl) ?_ _
                exact hfin _ _ _ _ (by simpa using P2)
              exact AllReadyIn.nil
            exact AllReadyIn.nil
          exact AllReadyIn.nil
        exact AllReadyIn.nil
      exact AllReadyIn.nil
    refine AllReadyIn.cons rfl (fun K hK => ?_) ?_
    · skip
      have c14 : ((W.drew.alloc (.cells #[.int .i64 (IntKind.i64.wrap f)] 3))).cell? ⟨g + 3, 0, none⟩ = some v' := (P0.below (TmA.below_alloc (Below.drew (Below.refl _ _)) _)).c2
      have c14b : ((W.alloc (.cells #[.int .i64 (IntKind.i64.wrap f)] 3))).cell? ⟨g + 3, 0, none⟩ = some v' := c14
      go_simp
      refine hK _ _ ?_; clear hK K
      refine wpAnyIn_ready (rs := [0, 7]) (by kernel_rfl) (by simp) ?_
      refine AllReadyIn.cons rfl (fun K hK => ?_) ?_
      · skip
        have c14 : ((W.drew.alloc (.cells #[.int .i64 (IntKind.i64.wrap f)] 3))).cell? ⟨g + 2, 0, none⟩ = some v := (P0.below (TmA.below_alloc (Below.drew (Below.refl _ _)) _)).c1
        have c14b : ((W.alloc (.cells #[.int .i64 (IntKind.i64.wrap f)] 3))).cell? ⟨g + 2, 0, none⟩ = some v := c14
        go_simp
        refine hK _ _ ?_; clear hK K
        refine wpAnyIn_ready (rs := [4, 7]) (by kernel_rfl) (by simp) ?_
        refine AllReadyIn.cons rfl (fun K hK => ?_) ?_
        · skip
          refine app1I (P0.below (TmA.below_alloc (Below.drew (Below.refl _ _)) _)) (.tmp 68) (.tmp 71) rfl rfl rfl _ (IntKind.i64.wrap f) rfl (by first | exact new_a (by first | rfl | simp) | exact new_b (by first | rfl | simp)) hn1 hla ?_
          intro v1 w1 P1 hk1
          obtain ⟨A1, e1, rfl, _⟩ := Base.slice_of_row P1.o1
          go_simp
          refine hK _ _ ?_; clear hK K
          refine wpAnyIn_ready (rs := [7]) (by kernel_rfl) (by simp) ?_
          refine AllReadyIn.cons rfl (fun K hK => ?_) ?_
          · skip
            go_simp
            refine hK _ _ ?_; clear hK K
            refine wpAnyIn_ready (rs := [8]) (by kernel_rfl) (by simp) ?_
            refine AllReadyIn.cons rfl (fun K hK => ?_) ?_
            · skip
              refine app2I (P1.below (TmA.below_alloc (Below.refl _ _) _)) (.tmp 73) (.tmp 75) rfl rfl rfl _ k rfl (by first | exact new_a (by first | rfl | simp) | exact hk1 _ _ (by simp) (new_a (by first | rfl | simp)) | exact hk1 _ _ (by simp) (new_b (by first | rfl | simp))) hn2 ?_
              intro v2 w2 P2
              obtain ⟨A2, e2, rfl, _⟩ := Base.slice_of_row P2.o2
              go_simp
              refine hK _ _ ?_; clear hK K
              refine wpAnyIn_ready (rs := [9]) (by kernel_rfl) (by simp) ?_
              refine AllReadyIn.cons rfl (fun K hK => ?_) ?_
              · skip
                have c14 := P2.c1; have f14 := P2.f1; have c15 := P2.c2; have f15 := P2.f2
                go_simp
                refine hK _ _ ?_; clear hK K
                refine wpAnyIn_ready (rs := [10]) (by kernel_rfl) (by simp) ?_
                refine AllReadyIn.cons rfl (fun K hK => ?_) AllReadyIn.nil
                go_simp
                refine hK _ _ ?_; clear hK K
                refine wpAnyIn_done (by kernel_rfl) ?_ _
                exact hfin _ _ _ _ (by simpa using P2)
              exact AllReadyIn.nil
            exact AllReadyIn.nil
          exact AllReadyIn.nil
        refine AllReadyIn.cons rfl (fun K hK => ?_) ?_
        · skip
          go_simp
          refine hK _ _ ?_; clear hK K
          refine wpAnyIn_ready (rs := [4]) (by kernel_rfl) (by simp) ?_
          refine AllReadyIn.cons rfl (fun K hK => ?_) ?_
          · skip
            refine app1I (P0.below (TmA.below_alloc (TmA.below_alloc (Below.drew (Below.refl _ _)) _) _)) (.tmp 68) (.tmp 71) rfl rfl rfl _ (IntKind.i64.wrap f) rfl (by first | exact new_a (by first | rfl | simp) | exact new_b (by first | rfl | simp)) hn1 hla ?_
            intro v1 w1 P1 hk1
            obtain ⟨A1, e1, rfl, _⟩ := Base.slice_of_row P1.o1
            go_simp
            refine hK _ _ ?_; clear hK K
            refine wpAnyIn_ready (rs := [8]) (by kernel_rfl) (by simp) ?_
            refine AllReadyIn.cons rfl (fun K hK => ?_) ?_
            · skip
              refine app2I (P1.below (Below.refl _ _)) (.tmp 73) (.tmp 75) rfl rfl rfl _ k rfl (by first | exact new_a (by first | rfl | simp) | exact hk1 _ _ (by simp) (new_a (by first | rfl | simp)) | exact hk1 _ _ (by simp) (new_b (by first | rfl | simp))) hn2 ?_
              intro v2 w2 P2
              obtain ⟨A2, e2, rfl, _⟩ := Base.slice_of_row P2.o2
              go_simp
              refine hK _ _ ?_; clear hK K
              refine wpAnyIn_ready (rs := [9]) (by kernel_rfl) (by simp) ?_
              refine AllReadyIn.cons rfl (fun K hK => ?_) ?_
              · skip
                have c14 := P2.c1; have f14 := P2.f1; have c15 := P2.c2; have f15 := P2.f2
                go_simp
                refine hK _ _ ?_; clear hK K
                refine wpAnyIn_ready (rs := [10]) (by kernel_rfl) (by simp) ?_
                refine AllReadyIn.cons rfl (fun K hK => ?_) AllReadyIn.nil
                go_simp
                refine hK _ _ ?_; clear hK K
                refine wpAnyIn_done (by kernel_rfl) ?_ _
                exact hfin _ _ _ _ (by simpa using P2)
              exact AllReadyIn.nil
            exact AllReadyIn.nil
          exact AllReadyIn.nil
        exact AllReadyIn.nil
      refine AllReadyIn.cons rfl (fun K hK => ?_) ?_
      · skip
        go_simp
        refine hK _ _ ?_; clear hK K
        refine wpAnyIn_ready (rs := [0]) (by kernel_rfl) (by simp) ?_
        refine AllReadyIn.cons rfl (fun K hK => ?_) ?_
        · skip
          have c14 : (((W.drew.alloc (.cells #[.int .i64 (IntKind.i64.wrap f)] 3)).alloc (.cells #[.int .i64 k] 3))).cell? ⟨g + 2, 0, none⟩ = some v := (P0.below (TmA.below_alloc (TmA.below_alloc (Below.drew (Below.refl _ _)) _) _)).c1
          have c14b : (((W.alloc (.cells #[.int .i64 (IntKind.i64.wrap f)] 3)).alloc (.cells #[.int .i64 k] 3))).cell? ⟨g + 2, 0, none⟩ = some v := c14
          go_simp
          refine hK _ _ ?_; clear hK K
          refine wpAnyIn_ready (rs := [4]) (by kernel_rfl) (by simp) ?_
          refine AllReadyIn.cons rfl (fun K hK => ?_) ?_
          · skip
            refine app1I (P0.below (TmA.below_alloc (TmA.below_alloc (Below.drew (Below.refl _ _)) _) _)) (.tmp 68) (.tmp 71) rfl rfl rfl _ (IntKind.i64.wrap f) rfl (by first | exact new_a (by first | rfl | simp) | exact new_b (by first | rfl | simp)) hn1 hla ?_
            intro v1 w1 P1 hk1
            obtain ⟨A1, e1, rfl, _⟩ := Base.slice_of_row P1.o1
            go_simp
            refine hK _ _ ?_; clear hK K
            refine wpAnyIn_ready (rs := [8]) (by kernel_rfl) (by simp) ?_
            refine AllReadyIn.cons rfl (fun K hK => ?_) ?_
            · skip
              refine app2I (P1.below (Below.refl _ _)) (.tmp 73) (.tmp 75) rfl rfl rfl _ k rfl (by first | exact new_a (by first | rfl | simp) | exact hk1 _ _ (by simp) (new_a (by first | rfl | simp)) | exact hk1 _ _ (by simp) (new_b (by first | rfl | simp))) hn2 ?_
              intro v2 w2 P2
              obtain ⟨A2, e2, rfl, _⟩ := Base.slice_of_row P2.o2
              go_simp
              refine hK _ _ ?_; clear hK K
              refine wpAnyIn_ready (rs := [9]) (by kernel_rfl) (by simp) ?_
              refine AllReadyIn.cons rfl (fun K hK => ?_) ?_
              · skip
                have c14 := P2.c1; have f14 := P2.f1; have c15 := P2.c2; have f15 := P2.f2
                go_simp
                refine hK _ _ ?_; clear hK K
                refine wpAnyIn_ready (rs := [10]) (by kernel_rfl) (by simp) ?_
                refine AllReadyIn.cons rfl (fun K hK => ?_) AllReadyIn.nil
                go_simp
                refine hK _ _ ?_; clear hK K
                refine wpAnyIn_done (by kernel_rfl) ?_ _
                exact hfin _ _ _ _ (by simpa using P2)
              exact AllReadyIn.nil
            exact AllReadyIn.nil
          exact AllReadyIn.nil
        exact AllReadyIn.nil
      exact AllReadyIn.nil
    refine AllReadyIn.cons rfl (fun K hK => ?_) ?_
    · skip
      go_simp
      refine hK _ _ ?_; clear hK K
      refine wpAnyIn_ready (rs := [0, 5]) (by kernel_rfl) (by simp) ?_
      refine AllReadyIn.cons rfl (fun K hK => ?_) ?_
      · skip
        have c14 : (((W.drew.alloc (.cells #[.int .i64 (IntKind.i64.wrap f)] 3)).alloc (.cells #[.int .i64 k] 3))).cell? ⟨g + 2, 0, none⟩ = some v := (P0.below (TmA.below_alloc (TmA.below_alloc (Below.drew (Below.refl _ _)) _) _)).c1
        have c14b : (((W.alloc (.cells #[.int .i64 (IntKind.i64.wrap f)] 3)).alloc (.cells #[.int .i64 k] 3))).cell? ⟨g + 2, 0, none⟩ = some v := c14
        go_simp
        refine hK _ _ ?_; clear hK K
        refine wpAnyIn_ready (rs := [4, 5]) (by kernel_rfl) (by simp) ?_
        refine AllReadyIn.cons rfl (fun K hK => ?_) ?_
        · skip
          refine app1I (P0.below (TmA.below_alloc (TmA.below_alloc (Below.drew (Below.refl _ _)) _) _)) (.tmp 68) (.tmp 71) rfl rfl rfl _ (IntKind.i64.wrap f) rfl (by first | exact new_a (by first | rfl | simp) | exact new_b (by first | rfl | simp)) hn1 hla ?_
          intro v1 w1 P1 hk1
          obtain ⟨A1, e1, rfl, _⟩ := Base.slice_of_row P1.o1
          go_simp
          refine hK _ _ ?_; clear hK K
          refine wpAnyIn_ready (rs := [5]) (by kernel_rfl) (by simp) ?_
          refine AllReadyIn.cons rfl (fun K hK => ?_) ?_
          · skip
            have c14 : (w1).cell? ⟨g + 3, 0, none⟩ = some v' := (P1.below (Below.refl _ _)).c2
            go_simp
            refine hK _ _ ?_; clear hK K
            refine wpAnyIn_ready (rs := [8]) (by kernel_rfl) (by simp) ?_
            refine AllReadyIn.cons rfl (fun K hK => ?_) ?_
            · skip
              refine app2I (P1.below (Below.refl _ _)) (.tmp 73) (.tmp 75) rfl rfl rfl _ k rfl (by first | exact new_a (by first | rfl | simp) | exact hk1 _ _ (by simp) (new_a (by first | rfl | simp)) | exact hk1 _ _ (by simp) (new_b (by first | rfl | simp))) hn2 ?_
              intro v2 w2 P2
              obtain ⟨A2, e2, rfl, _⟩ := Base.slice_of_row P2.o2
              go_simp
              refine hK _ _ ?_; clear hK K
              refine wpAnyIn_ready (rs := [9]) (by kernel_rfl) (by simp) ?_
              refine AllReadyIn.cons rfl (fun K hK => ?_) ?_
              · skip
                have c14 := P2.c1; have f14 := P2.f1; have c15 := P2.c2; have f15 := P2.f2
                go_simp
                refine hK _ _ ?_; clear hK K
                refine wpAnyIn_ready (rs := [10]) (by kernel_rfl) (by simp) ?_
                refine AllReadyIn.cons rfl (fun K hK => ?_) AllReadyIn.nil
                go_simp
                refine hK _ _ ?_; clear hK K
                refine wpAnyIn_done (by kernel_rfl) ?_ _
                exact hfin _ _ _ _ (by simpa using P2)
              exact AllReadyIn.nil
            exact AllReadyIn.nil
          exact AllReadyIn.nil
        refine AllReadyIn.cons rfl (fun K hK => ?_) ?_
        · skip
          have c14 : (((W.drew.alloc (.cells #[.int .i64 (IntKind.i64.wrap f)] 3)).alloc (.cells #[.int .i64 k] 3))).cell? ⟨g + 3, 0, none⟩ = some v' := (P0.below (TmA.below_alloc (TmA.below_alloc (Below.drew (Below.refl _ _)) _) _)).c2
          have c14b : (((W.alloc (.cells #[.int .i64 (IntKind.i64.wrap f)] 3)).alloc (.cells #[.int .i64 k] 3))).cell? ⟨g + 3, 0, none⟩ = some v' := c14
          go_simp
          refine hK _ _ ?_; clear hK K
          refine wpAnyIn_ready (rs := [4]) (by kernel_rfl) (by simp) ?_
          refine AllReadyIn.cons rfl (fun K hK => ?_) ?_
          · skip
            refine app1I (P0.below (TmA.below_alloc (TmA.below_alloc (Below.drew (Below.refl _ _)) _) _)) (.tmp 68) (.tmp 71) rfl rfl rfl _ (IntKind.i64.wrap f) rfl (by first | exact new_a (by first | rfl | simp) | exact new_b (by first | rfl | simp)) hn1 hla ?_
            intro v1 w1 P1 hk1
            obtain ⟨A1, e1, rfl, _⟩ := Base.slice_of_row P1.o1
            go_simp
            refine hK _ _ ?_; clear hK K
            refine wpAnyIn_ready (rs := [8]) (by kernel_rfl) (by simp) ?_
            refine AllReadyIn.cons rfl (fun K hK => ?_) ?_
            · skip
              refine app2I (P1.below (Below.refl _ _)) (.tmp 73) (.tmp 75) rfl rfl rfl _ k rfl (by first | exact new_a (by first | rfl | simp) | exact hk1 _ _ (by simp) (new_a (by first | rfl | simp)) | exact hk1 _ _ (by simp) (new_b (by first | rfl | simp))) hn2 ?_
              intro v2 w2 P2
              obtain ⟨A2, e2, rfl, _⟩ := Base.slice_of_row P2.o2
              go_simp
              refine hK _ _ ?_; clear hK K
              refine wpAnyIn_ready (rs := [9]) (by kernel_rfl) (by simp) ?_
              refine AllReadyIn.cons rfl (fun K hK => ?_) ?_
              · skip
                have c14 := P2.c1; have f14 := P2.f1; have c15 := P2.c2; have f15 := P2.f2
                go_simp
                refine hK _ _ ?_; clear hK K
                refine wpAnyIn_ready (rs := [10]) (by kernel_rfl) (by simp) ?_
                refine AllReadyIn.cons rfl (fun K hK => ?_) AllReadyIn.nil
                go_simp
                refine hK _ _ ?_; clear hK K
                refine wpAnyIn_done (by kernel_rfl) ?_ _
                exact hfin _ _ _ _ (by simpa using P2)
              exact AllReadyIn.nil
            exact AllReadyIn.nil
          exact AllReadyIn.nil
        exact AllReadyIn.nil
      refine AllReadyIn.cons rfl (fun K hK => ?_) ?_
      · skip
        have c14 : (((W.drew.alloc (.cells #[.int .i64 (IntKind.i64.wrap f)] 3)).alloc (.cells #[.int .i64 k] 3))).cell? ⟨g + 3, 0, none⟩ = some v' := (P0.below (TmA.below_alloc (TmA.below_alloc (Below.drew (Below.refl _ _)) _) _)).c2
        have c14b : (((W.alloc (.cells #[.int .i64 (IntKind.i64.wrap f)] 3)).alloc (.cells #[.int .i64 k] 3))).cell? ⟨g + 3, 0, none⟩ = some v' := c14
        go_simp
        refine hK _ _ ?_; clear hK K
        refine wpAnyIn_ready (rs := [0]) (by kernel_rfl) (by simp) ?_
        refine AllReadyIn.cons rfl (fun K hK => ?_) ?_
        · skip
          have c14 : (((W.drew.alloc (.cells #[.int .i64 (IntKind.i64.wrap f)] 3)).alloc (.cells #[.int .i64 k] 3))).cell? ⟨g + 2, 0, none⟩ = some v := (P0.below (TmA.below_alloc (TmA.below_alloc (Below.drew (Below.refl _ _)) _) _)).c1
          have c14b : (((W.alloc (.cells #[.int .i64 (IntKind.i64.wrap f)] 3)).alloc (.cells #[.int .i64 k] 3))).cell? ⟨g + 2, 0, none⟩ = some v := c14
          go_simp
          refine hK _ _ ?_; clear hK K
          refine wpAnyIn_ready (rs := [4]) (by kernel_rfl) (by simp) ?_
          refine AllReadyIn.cons rfl (fun K hK => ?_) ?_
          · skip
            refine app1I (P0.below (TmA.below_alloc (TmA.below_alloc (Below.drew (Below.refl _ _)) _) _)) (.tmp 68) (.tmp 71) rfl rfl rfl _ (IntKind.i64.wrap f) rfl (by first | exact new_a (by first | rfl | simp) | exact new_b (by first | rfl | simp)) hn1 hla ?_
            intro v1 w1 P1 hk1
            obtain ⟨A1, e1, rfl, _⟩ := Base.slice_of_row P1.o1
            go_simp
            refine hK _ _ ?_; clear hK K
            refine wpAnyIn_ready (rs := [8]) (by kernel_rfl) (by simp) ?_
            refine AllReadyIn.cons rfl (fun K hK => ?_) ?_
            · skip
              refine app2I (P1.below (Below.refl _ _)) (.tmp 73) (.tmp 75) rfl rfl rfl _ k rfl (by first | exact new_a (by first | rfl | simp) | exact hk1 _ _ (by simp) (new_a (by first | rfl | simp)) | exact hk1 _ _ (by simp) (new_b (by first | rfl | simp))) hn2 ?_
              intro v2 w2 P2
              obtain ⟨A2, e2, rfl, _⟩ := Base.slice_of_row P2.o2
              go_simp
              refine hK _ _ ?_; clear hK K
              refine wpAnyIn_ready (rs := [9]) (by kernel_rfl) (by simp) ?_
              refine AllReadyIn.cons rfl (fun K hK => ?_) ?_
              · skip
                have c14 := P2.c1; have f14 := P2.f1; have c15 := P2.c2; have f15 := P2.f2
                go_simp
                refine hK _ _ ?_; clear hK K
                refine wpAnyIn_ready (rs := [10]) (by kernel_rfl) (by simp) ?_
                refine AllReadyIn.cons rfl (fun K hK => ?_) AllReadyIn.nil
                go_simp
                refine hK _ _ ?_; clear hK K
                refine wpAnyIn_done (by kernel_rfl) ?_ _
                exact hfin _ _ _ _ (by simpa using P2)
              exact AllReadyIn.nil
            exact AllReadyIn.nil
          exact AllReadyIn.nil
        exact AllReadyIn.nil
      exact AllReadyIn.nil
    exact AllReadyIn.nil
  refine AllReadyIn.cons rfl (fun K hK => ?_) ?_
  · skip
    have c14 : (W.drew).cell? ⟨g + 3, 0, none⟩ = some v' := (P0.below (Below.drew (Below.refl _ _))).c2
    go_simp
    refine hK _ _ ?_; clear hK K
    refine wpAnyIn_ready (rs := [0, 3, 7]) (by kernel_rfl) (by simp) ?_
    refine AllReadyIn.cons rfl (fun K hK => ?_) ?_
    · skip
      have c14 : (W.drew).cell? ⟨g + 2, 0, none⟩ = some v := (P0.below (Below.drew (Below.refl _ _))).c1
      go_simp
      refine hK _ _ ?_; clear hK K
      refine wpAnyIn_ready (rs := [3, 7]) (by kernel_rfl) (by simp) ?_
      refine AllReadyIn.cons rfl (fun K hK => ?_) ?_
      · skip
        go_simp
        refine hK _ _ ?_; clear hK K
        refine wpAnyIn_ready (rs := [4, 7]) (by kernel_rfl) (by simp) ?_
        refine AllReadyIn.cons rfl (fun K hK => ?_) ?_
        · skip
          refine app1I (P0.below (TmA.below_alloc (Below.drew (Below.refl _ _)) _)) (.tmp 68) (.tmp 71) rfl rfl rfl _ (IntKind.i64.wrap f) rfl (by first | exact new_a (by first | rfl | simp) | exact new_b (by first | rfl | simp)) hn1 hla ?_
          intro v1 w1 P1 hk1
          obtain ⟨A1, e1, rfl, _⟩ := Base.slice_of_row P1.o1
          go_simp
          refine hK _ _ ?_; clear hK K
          refine wpAnyIn_ready (rs := [7]) (by kernel_rfl) (by simp) ?_
          refine AllReadyIn.cons rfl (fun K hK => ?_) ?_
          · skip
            go_simp
            refine hK _ _ ?_; clear hK K
            refine wpAnyIn_ready (rs := [8]) (by kernel_rfl) (by simp) ?_
            refine AllReadyIn.cons rfl (fun K hK => ?_) ?_
            · skip
              refine app2I (P1.below (TmA.below_alloc (Below.refl _ _) _)) (.tmp 73) (.tmp 75) rfl rfl rfl _ k rfl (by first | exact new_a (by first | rfl | simp) | exact hk1 _ _ (by simp) (new_a (by first | rfl | simp)) | exact hk1 _ _ (by simp) (new_b (by first | rfl | simp))) hn2 ?_
              intro v2 w2 P2
              obtain ⟨A2, e2, rfl, _⟩ := Base.slice_of_row P2.o2
              go_simp
              refine hK _ _ ?_; clear hK K
              refine wpAnyIn_ready (rs := [9]) (by kernel_rfl) (by simp) ?_
              refine AllReadyIn.cons rfl (fun K hK => ?_) ?_
              · skip
                have c14 := P2.c1; have f14 := P2.f1; have c15 := P2.c2; have f15 := P2.f2
                go_simp
                refine hK _ _ ?_; clear hK K
                refine wpAnyIn_ready (rs := [10]) (by kernel_rfl) (by simp) ?_
                refine AllReadyIn.cons rfl (fun K hK => ?_) AllReadyIn.nil
                go_simp
                refine hK _ _ ?_; clear hK K
                refine wpAnyIn_done (by kernel_rfl) ?_ _
                exact hfin _ _ _ _ (by simpa using P2)
              exact AllReadyIn.nil
            exact AllReadyIn.nil
          exact AllReadyIn.nil
        refine AllReadyIn.cons rfl (fun K hK => ?_) ?_
        · skip
          go_simp
          refine hK _ _ ?_; clear hK K
          refine wpAnyIn_ready (rs := [4]) (by kernel_rfl) (by simp) ?_
          refine AllReadyIn.cons rfl (fun K hK => ?_) ?_
          · skip
            refine app1I (P0.below (TmA.below_alloc (TmA.below_alloc (Below.drew (Below.refl _ _)) _) _)) (.tmp 68) (.tmp 71) rfl rfl rfl _ (IntKind.i64.wrap f) rfl (by first | exact new_a (by first | rfl | simp) | exact new_b (by first | rfl | simp)) hn1 hla ?_
            intro v1 w1 P1 hk1
            obtain ⟨A1, e1, rfl, _⟩ := Base.slice_of_row P1.o1
            go_simp
            refine hK _ _ ?_; clear hK K
            refine wpAnyIn_ready (rs := [8]) (by kernel_rfl) (by simp) ?_
            refine AllReadyIn.cons rfl (fun K hK => ?_) ?_
            · skip
              refine app2I (P1.below (Below.refl _ _)) (.tmp 73) (.tmp 75) rfl rfl rfl _ k rfl (by first | exact new_a (by first | rfl | simp) | exact hk1 _ _ (by simp) (new_a (by first | rfl | simp)) | exact hk1 _ _ (by simp) (new_b (by first | rfl | simp))) hn2 ?_
              intro v2 w2 P2
              obtain ⟨A2, e2, rfl, _⟩ := Base.slice_of_row P2.o2
              go_simp
              refine hK _ _ ?_; clear hK K
              refine wpAnyIn_ready (rs := [9]) (by kernel_rfl) (by simp) ?_
              refine AllReadyIn.cons rfl (fun K hK => ?_) ?_
              · skip
                have c14 := P2.c1; have f14 := P2.f1; have c15 := P2.c2; have f15 := P2.f2
                go_simp
                refine hK _ _ ?_; clear hK K
                refine wpAnyIn_ready (rs := [10]) (by kernel_rfl) (by simp) ?_
                refine AllReadyIn.cons rfl (fun K hK => ?_) AllReadyIn.nil
                go_simp
                refine hK _ _ ?_; clear hK K
                refine wpAnyIn_done (by kernel_rfl) ?_ _
                exact hfin _ _ _ _ (by simpa using P2)
              exact AllReadyIn.nil
            exact AllReadyIn.nil
          exact AllReadyIn.nil
        exact AllReadyIn.nil
      refine AllReadyIn.cons rfl (fun K hK => ?_) ?_
      · skip
        go_simp
        refine hK _ _ ?_; clear hK K
        refine wpAnyIn_ready (rs := [3]) (by kernel_rfl) (by simp) ?_
        refine AllReadyIn.cons rfl (fun K hK => ?_) ?_
        · skip
          go_simp
          refine hK _ _ ?_; clear hK K
          refine wpAnyIn_ready (rs := [4]) (by kernel_rfl) (by simp) ?_
          refine AllReadyIn.cons rfl (fun K hK => ?_) ?_
          · skip
            refine app1I (P0.below (TmA.below_alloc (TmA.below_alloc (Below.drew (Below.refl _ _)) _) _)) (.tmp 68) (.tmp 71) rfl rfl rfl _ (IntKind.i64.wrap f) rfl (by first | exact new_a (by first | rfl | simp) | exact new_b (by first | rfl | simp)) hn1 hla ?_
            intro v1 w1 P1 hk1
            obtain ⟨A1, e1, rfl, _⟩ := Base.slice_of_row P1.o1
            go_simp
            refine hK _ _ ?_; clear hK K
            refine wpAnyIn_ready (rs := [8]) (by kernel_rfl) (by simp) ?_
            refine AllReadyIn.cons rfl (fun K hK => ?_) ?_
            · skip
              refine app2I (P1.below (Below.refl _ _)) (.tmp 73) (.tmp 75) rfl rfl rfl _ k rfl (by first | exact new_a (by first | rfl | simp) | exact hk1 _ _ (by simp) (new_a (by first | rfl | simp)) | exact hk1 _ _ (by simp) (new_b (by first | rfl | simp))) hn2 ?_
              intro v2 w2 P2
              obtain ⟨A2, e2, rfl, _⟩ := Base.slice_of_row P2.o2
              go_simp
              refine hK _ _ ?_; clear hK K
              refine wpAnyIn_ready (rs := [9]) (by kernel_rfl) (by simp) ?_
              refine AllReadyIn.cons rfl (fun K hK => ?_) ?_
              · skip
                have c14 := P2.c1; have f14 := P2.f1; have c15 := P2.c2; have f15 := P2.f2
                go_simp
                refine hK _ _ ?_; clear hK K
                refine wpAnyIn_ready (rs := [10]) (by kernel_rfl) (by simp) ?_
                refine AllReadyIn.cons rfl (fun K hK => ?_) AllReadyIn.nil
                go_simp
                refine hK _ _ ?_; clear hK K
                refine wpAnyIn_done (by kernel_rfl) ?_ _
                exact hfin _ _ _ _ (by simpa using P2)
              exact AllReadyIn.nil
            exact AllReadyIn.nil
          exact AllReadyIn.nil
        exact AllReadyIn.nil
      exact AllReadyIn.nil
    refine AllReadyIn.cons rfl (fun K hK => ?_) ?_
    · skip
      go_simp
      refine hK _ _ ?_; clear hK K
      refine wpAnyIn_ready (rs := [0, 7]) (by kernel_rfl) (by simp) ?_
      refine AllReadyIn.cons rfl (fun K hK => ?_) ?_
      · skip
        have c14 : ((W.drew.alloc (.cells #[.int .i64 (IntKind.i64.wrap f)] 3))).cell? ⟨g + 2, 0, none⟩ = some v := (P0.below (TmA.below_alloc (Below.drew (Below.refl _ _)) _)).c1
        have c14b : ((W.alloc (.cells #[.int .i64 (IntKind.i64.wrap f)] 3))).cell? ⟨g + 2, 0, none⟩ = some v := c14
        go_simp
        refine hK _ _ ?_; clear hK K
        refine wpAnyIn_ready (rs := [4, 7]) (by kernel_rfl) (by simp) ?_
        refine AllReadyIn.cons rfl (fun K hK => ?_) ?_
        · skip
          refine app1I (P0.below (TmA.below_alloc (Below.drew (Below.refl _ _)) _)) (.tmp 68) (.tmp 71) rfl rfl rfl _ (IntKind.i64.wrap f) rfl (by first | exact new_a (by first | rfl | simp) | exact new_b (by first | rfl | simp)) hn1 hla ?_
          intro v1 w1 P1 hk1
          obtain ⟨A1, e1, rfl, _⟩ := Base.slice_of_row P1.o1
          go_simp
          refine hK _ _ ?_; clear hK K
          refine wpAnyIn_ready (rs := [7]) (by kernel_rfl) (by simp) ?_
          refine AllReadyIn.cons rfl (fun K hK => ?_) ?_
          · skip
            go_simp
            refine hK _ _ ?_; clear hK K
            refine wpAnyIn_ready (rs := [8]) (by kernel_rfl) (by simp) ?_
            refine AllReadyIn.cons rfl (fun K hK => ?_) ?_
            · skip
              refine app2I (P1.below (TmA.below_alloc (Below.refl _ _) _)) (.tmp 73) (.tmp 75) rfl rfl rfl _ k rfl (by first | exact new_a (by first | rfl | simp) | exact hk1 _ _ (by simp) (new_a (by first | rfl | simp)) | exact hk1 _ _ (by simp) (new_b (by first | rfl | simp))) hn2 ?_
              intro v2 w2 P2
              obtain ⟨A2, e2, rfl, _⟩ := Base.slice_of_row P2.o2
              go_simp
              refine hK _ _ ?_; clear hK K
              refine wpAnyIn_ready (rs := [9]) (by kernel_rfl) (by simp) ?_
              refine AllReadyIn.cons rfl (fun K hK => ?_) ?_
              · skip
                have c14 := P2.c1; have f14 := P2.f1; have c15 := P2.c2; have f15 := P2.f2
                go_simp
                refine hK _ _ ?_; clear hK K
                refine wpAnyIn_ready (rs := [10]) (by kernel_rfl) (by simp) ?_
                refine AllReadyIn.cons rfl (fun K hK => ?_) AllReadyIn.nil
                go_simp
                refine hK _ _ ?_; clear hK K
                refine wpAnyIn_done (by kernel_rfl) ?_ _
                exact hfin _ _ _ _ (by simpa using P2)
              exact AllReadyIn.nil
            exact AllReadyIn.nil
          exact AllReadyIn.nil
        refine AllReadyIn.cons rfl (fun K hK => ?_) ?_
        · skip
          go_simp
          refine hK _ _ ?_; clear hK K
          refine wpAnyIn_ready (rs := [4]) (by kernel_rfl) (by simp) ?_
          refine AllReadyIn.cons rfl (fun K hK => ?_) ?_
          · skip
            refine app1I (P0.below (TmA.below_alloc (TmA.below_alloc (Below.drew (Below.refl _ _)) _) _)) (.tmp 68) (.tmp 71) rfl rfl rfl _ (IntKind.i64.wrap f) rfl (by first | exact new_a (by first | rfl | simp) | exact new_b (by first | rfl | simp)) hn1 hla ?_
            intro v1 w1 P1 hk1
            obtain ⟨A1, e1, rfl, _⟩ := Base.slice_of_row P1.o1
            go_simp
            refine hK _ _ ?_; clear hK K
            refine wpAnyIn_ready (rs := [8]) (by kernel_rfl) (by simp) ?_
            refine AllReadyIn.cons rfl (fun K hK => ?_) ?_
            · skip
              refine app2I (P1.below (Below.refl _ _)) (.tmp 73) (.tmp 75) rfl rfl rfl _ k rfl (by first | exact new_a (by first | rfl | simp) | exact hk1 _ _ (by simp) (new_a (by first | rfl | simp)) | exact hk1 _ _ (by simp) (new_b (by first | rfl | simp))) hn2 ?_
              intro v2 w2 P2
              obtain ⟨A2, e2, rfl, _⟩ := Base.slice_of_row P2.o2
              go_simp
              refine hK _ _ ?_; clear hK K
              refine wpAnyIn_ready (rs := [9]) (by kernel_rfl) (by simp) ?_
              refine AllReadyIn.cons rfl (fun K hK => ?_) ?_
              · skip
                have c14 := P2.c1; have f14 := P2.f1; have c15 := P2.c2; have f15 := P2.f2
                go_simp
                refine hK _ _ ?_; clear hK K
                refine wpAnyIn_ready (rs := [10]) (by kernel_rfl) (by simp) ?_
                refine AllReadyIn.cons rfl (fun K hK => ?_) AllReadyIn.nil
                go_simp
                refine hK _ _ ?_; clear hK K
                refine wpAnyIn_done (by kernel_rfl) ?_ _
                exact hfin _ _ _ _ (by simpa using P2)
              exact AllReadyIn.nil
            exact AllReadyIn.nil
          exact AllReadyIn.nil
        exact AllReadyIn.nil
      refine AllReadyIn.cons rfl (fun K hK => ?_) ?_
      · skip
        go_simp
        refine hK _ _ ?_; clear hK K
        refine wpAnyIn_ready (rs := [0]) (by kernel_rfl) (by simp) ?_
        refine AllReadyIn.cons rfl (fun K hK => ?_) ?_
        · skip
          have c14 : (((W.drew.alloc (.cells #[.int .i64 (IntKind.i64.wrap f)] 3)).alloc (.cells #[.int .i64 k] 3))).cell? ⟨g + 2, 0, none⟩ = some v := (P0.below (TmA.below_alloc (TmA.below_alloc (Below.drew (Below.refl _ _)) _) _)).c1
          have c14b : (((W.alloc (.cells #[.int .i64 (IntKind.i64.wrap f)] 3)).alloc (.cells #[.int .i64 k] 3))).cell? ⟨g + 2, 0, none⟩ = some v := c14
          go_simp
          refine hK _ _ ?_; clear hK K
          refine wpAnyIn_ready (rs := [4]) (by kernel_rfl) (by simp) ?_
          refine AllReadyIn.cons rfl (fun K hK => ?_) ?_
          · skip
            refine app1I (P0.below (TmA.below_alloc (TmA.below_alloc (Below.drew (Below.refl _ _)) _) _)) (.tmp 68) (.tmp 71) rfl rfl rfl _ (IntKind.i64.wrap f) rfl (by first | exact new_a (by first | rfl | simp) | exact new_b (by first | rfl | simp)) hn1 hla ?_
            intro v1 w1 P1 hk1
            obtain ⟨A1, e1, rfl, _⟩ := Base.slice_of_row P1.o1
            go_simp
            refine hK _ _ ?_; clear hK K
            refine wpAnyIn_ready (rs := [8]) (by kernel_rfl) (by simp) ?_
            refine AllReadyIn.cons rfl (fun K hK => ?_) ?_
            · skip
              refine app2I (P1.below (Below.refl _ _)) (.tmp 73) (.tmp 75) rfl rfl rfl _ k rfl (by first | exact new_a (by first | rfl | simp) | exact hk1 _ _ (by simp) (new_a (by first | rfl | simp)) | exact hk1 _ _ (by simp) (new_b (by first | rfl | simp))) hn2 ?_
              intro v2 w2 P2
              obtain ⟨A2, e2, rfl, _⟩ := Base.slice_of_row P2.o2
              go_simp
              refine hK _ _ ?_; clear hK K
              refine wpAnyIn_ready (rs := [9]) (by kernel_rfl) (by simp) ?_
              refine AllReadyIn.cons rfl (fun K hK => ?_) ?_
              · skip
                have c14 := P2.c1; have f14 := P2.f1; have c15 := P2.c2; have f15 := P2.f2
                go_simp
                refine hK _ _ ?_; clear hK K
                refine wpAnyIn_ready (rs := [10]) (by kernel_rfl) (by simp) ?_
                refine AllReadyIn.cons rfl (fun K hK => ?_) AllReadyIn.nil
                go_simp
                refine hK _ _ ?_; clear hK K
                refine wpAnyIn_done (by kernel_rfl) ?_ _
                exact hfin _ _ _ _ (by simpa using P2)
              exact AllReadyIn.nil
            exact AllReadyIn.nil
          exact AllReadyIn.nil
        exact AllReadyIn.nil
      exact AllReadyIn.nil
    refine AllReadyIn.cons rfl (fun K hK => ?_) ?_
    · skip
      go_simp
      refine hK _ _ ?_; clear hK K
      refine wpAnyIn_ready (rs := [0, 3]) (by kernel_rfl) (by simp) ?_
      refine AllReadyIn.cons rfl (fun K hK => ?_) ?_
      · skip
        have c14 : ((W.drew.alloc (.cells #[.int .i64 k] 3))).cell? ⟨g + 2, 0, none⟩ = some v := (P0.below (TmA.below_alloc (Below.drew (Below.refl _ _)) _)).c1
        have c14b : ((W.alloc (.cells #[.int .i64 k] 3))).cell? ⟨g + 2, 0, none⟩ = some v := c14
        go_simp
        refine hK _ _ ?_; clear hK K
        refine wpAnyIn_ready (rs := [3]) (by kernel_rfl) (by simp) ?_
        refine AllReadyIn.cons rfl (fun K hK => ?_) ?_
        · skip
          go_simp
          refine hK _ _ ?_; clear hK K
          refine wpAnyIn_ready (rs := [4]) (by kernel_rfl) (by simp) ?_
          refine AllReadyIn.cons rfl (fun K hK => ?_) ?_
          · skip
            refine app1I (P0.below (TmA.below_alloc (TmA.below_alloc (Below.drew (Below.refl _ _)) _) _)) (.tmp 68) (.tmp 71) rfl rfl rfl _ (IntKind.i64.wrap f) rfl (by first | exact new_a (by first | rfl | simp) | exact new_b (by first | rfl | simp)) hn1 hla ?_
            intro v1 w1 P1 hk1
            obtain ⟨A1, e1, rfl, _⟩ := Base.slice_of_row P1.o1
            go_simp
            refine hK _ _ ?_; clear hK K
            refine wpAnyIn_ready (rs := [8]) (by kernel_rfl) (by simp) ?_
            refine AllReadyIn.cons rfl (fun K hK => ?_) ?_
            · skip
              refine app2I (P1.below (Below.refl _ _)) (.tmp 73) (.tmp 75) rfl rfl rfl _ k rfl (by first | exact new_a (by first | rfl | simp) | exact hk1 _ _ (by simp) (new_a (by first | rfl | simp)) | exact hk1 _ _ (by simp) (new_b (by first | rfl | simp))) hn2 ?_
              intro v2 w2 P2
              obtain ⟨A2, e2, rfl, _⟩ := Base.slice_of_row P2.o2
              go_simp
              refine hK _ _ ?_; clear hK K
              refine wpAnyIn_ready (rs := [9]) (by kernel_rfl) (by simp) ?_
              refine AllReadyIn.cons rfl (fun K hK => ?_) ?_
              · skip
                have c14 := P2.c1; have f14 := P2.f1; have c15 := P2.c2; have f15 := P2.f2
                go_simp
                refine hK _ _ ?_; clear hK K
                refine wpAnyIn_ready (rs := [10]) (by kernel_rfl) (by simp) ?_
                refine AllReadyIn.cons rfl (fun K hK => ?_) AllReadyIn.nil
                go_simp
                refine hK _ _ ?_; clear hK K
                refine wpAnyIn_done (by kernel_rfl) ?_ _
                exact hfin _ _ _ _ (by simpa using P2)
              exact AllReadyIn.nil
            exact AllReadyIn.nil
          exact AllReadyIn.nil
        exact AllReadyIn.nil
      refine AllReadyIn.cons rfl (fun K hK => ?_) ?_
      · skip
        go_simp
        refine hK _ _ ?_; clear hK K
        refine wpAnyIn_ready (rs := [0]) (by kernel_rfl) (by simp) ?_
        refine AllReadyIn.cons rfl (fun K hK => ?_) ?_
        · skip
          have c14 : (((W.drew.alloc (.cells #[.int .i64 k] 3)).alloc (.cells #[.int .i64 (IntKind.i64.wrap f)] 3))).cell? ⟨g + 2, 0, none⟩ = some v := (P0.below (TmA.below_alloc (TmA.below_alloc (Below.drew (Below.refl _ _)) _) _)).c1
          have c14b : (((W.alloc (.cells #[.int .i64 k] 3)).alloc (.cells #[.int .i64 (IntKind.i64.wrap f)] 3))).cell? ⟨g + 2, 0, none⟩ = some v := c14
          go_simp
          refine hK _ _ ?_; clear hK K
          refine wpAnyIn_ready (rs := [4]) (by kernel_rfl) (by simp) ?_
          refine AllReadyIn.cons rfl (fun K hK => ?_) ?_
          · skip
            refine app1I (P0.below (TmA.below_alloc (TmA.below_alloc (Below.drew (Below.refl _ _)) _) _)) (.tmp 68) (.tmp 71) rfl rfl rfl _ (IntKind.i64.wrap f) rfl (by first | exact new_a (by first | rfl | simp) | exact new_b (by first | rfl | simp)) hn1 hla ?_
            intro v1 w1 P1 hk1
            obtain ⟨A1, e1, rfl, _⟩ := Base.slice_of_row P1.o1
            go_simp
            refine hK _ _ ?_; clear hK K
            refine wpAnyIn_ready (rs := [8]) (by kernel_rfl) (by simp) ?_
            refine AllReadyIn.cons rfl (fun K hK => ?_) ?_
            · skip
              refine app2I (P1.below (Below.refl _ _)) (.tmp 73) (.tmp 75) rfl rfl rfl _ k rfl (by first | exact new_a (by first | rfl | simp) | exact hk1 _ _ (by simp) (new_a (by first | rfl | simp)) | exact hk1 _ _ (by simp) (new_b (by first | rfl | simp))) hn2 ?_
              intro v2 w2 P2
              obtain ⟨A2, e2, rfl, _⟩ := Base.slice_of_row P2.o2
              go_simp
              refine hK _ _ ?_; clear hK K
              refine wpAnyIn_ready (rs := [9]) (by kernel_rfl) (by simp) ?_
              refine AllReadyIn.cons rfl (fun K hK => ?_) ?_
              · skip
                have c14 := P2.c1; have f14 := P2.f1; have c15 := P2.c2; have f15 := P2.f2
                go_simp
                refine hK _ _ ?_; clear hK K
                refine wpAnyIn_ready (rs := [10]) (by kernel_rfl) (by simp) ?_
                refine AllReadyIn.cons rfl (fun K hK => ?_) AllReadyIn.nil
                go_simp
                refine hK _ _ ?_; clear hK K
                refine wpAnyIn_done (by kernel_rfl) ?_ _
                exact hfin _ _ _ _ (by simpa using P2)
              exact AllReadyIn.nil
            exact AllReadyIn.nil
          exact AllReadyIn.nil
        exact AllReadyIn.nil
      exact AllReadyIn.nil
    exact AllReadyIn.nil
  refine AllReadyIn.cons rfl (fun K hK => ?_) ?_
  · skip
    go_simp
    refine hK _ _ ?_; clear hK K
    refine wpAnyIn_ready (rs := [0, 3, 5]) (by kernel_rfl) (by simp) ?_
    refine AllReadyIn.cons rfl (fun K hK => ?_) ?_
    · skip
      have c14 : ((W.drew.alloc (.cells #[.int .i64 k] 3))).cell? ⟨g + 2, 0, none⟩ = some v := (P0.below (TmA.below_alloc (Below.drew (Below.refl _ _)) _)).c1
      have c14b : ((W.alloc (.cells #[.int .i64 k] 3))).cell? ⟨g + 2, 0, none⟩ = some v := c14
      go_simp
      refine hK _ _ ?_; clear hK K
      refine wpAnyIn_ready (rs := [3, 5]) (by kernel_rfl) (by simp) ?_
      refine AllReadyIn.cons rfl (fun K hK => ?_) ?_
      · skip
        go_simp
        refine hK _ _ ?_; clear hK K
        refine wpAnyIn_ready (rs := [4, 5]) (by kernel_rfl) (by simp) ?_
        refine AllReadyIn.cons rfl (fun K hK => ?_) ?_
        · skip
          refine app1I (P0.below (TmA.below_alloc (TmA.below_alloc (Below.drew (Below.refl _ _)) _) _)) (.tmp 68) (.tmp 71) rfl rfl rfl _ (IntKind.i64.wrap f) rfl (by first | exact new_a (by first | rfl | simp) | exact new_b (by first | rfl | simp)) hn1 hla ?_
          intro v1 w1 P1 hk1
          obtain ⟨A1, e1, rfl, _⟩ := Base.slice_of_row P1.o1
          go_simp
          refine hK _ _ ?_; clear hK K
          refine wpAnyIn_ready (rs := [5]) (by kernel_rfl) (by simp) ?_
          refine AllReadyIn.cons rfl (fun K hK => ?_) ?_
          · skip
            have c14 : (w1).cell? ⟨g + 3, 0, none⟩ = some v' := (P1.below (Below.refl _ _)).c2
            go_simp
            refine hK _ _ ?_; clear hK K
            refine wpAnyIn_ready (rs := [8]) (by kernel_rfl) (by simp) ?_
            refine AllReadyIn.cons rfl (fun K hK => ?_) ?_
            · skip
              refine app2I (P1.below (Below.refl _ _)) (.tmp 73) (.tmp 75) rfl rfl rfl _ k rfl (by first | exact new_a (by first | rfl | simp) | exact hk1 _ _ (by simp) (new_a (by first | rfl | simp)) | exact hk1 _ _ (by simp) (new_b (by first | rfl | simp))) hn2 ?_
              intro v2 w2 P2
              obtain ⟨A2, e2, rfl, _⟩ := Base.slice_of_row P2.o2
              go_simp
              refine hK _ _ ?_; clear hK K
              refine wpAnyIn_ready (rs := [9]) (by kernel_rfl) (by simp) ?_
              refine AllReadyIn.cons rfl (fun K hK => ?_) ?_
              · skip
                have c14 := P2.c1; have f14 := P2.f1; have c15 := P2.c2; have f15 := P2.f2
                go_simp
                refine hK _ _ ?_; clear hK K
                refine wpAnyIn_ready (rs := [10]) (by kernel_rfl) (by simp) ?_
                refine AllReadyIn.cons rfl (fun K hK => ?_) AllReadyIn.nil
                go_simp
                refine hK _ _ ?_; clear hK K
                refine wpAnyIn_done (by kernel_rfl) ?_ _
                exact hfin _ _ _ _ (by simpa using P2)
              exact AllReadyIn.nil
            exact AllReadyIn.nil
          exact AllReadyIn.nil
        refine AllReadyIn.cons rfl (fun K hK => ?_) ?_
        · skip
          have c14 : (((W.drew.alloc (.cells #[.int .i64 k] 3)).alloc (.cells #[.int .i64 (IntKind.i64.wrap f)] 3))).cell? ⟨g + 3, 0, none⟩ = some v' := (P0.below (TmA.below_alloc (TmA.below_alloc (Below.drew (Below.refl _ _)) _) _)).c2
          have c14b : (((W.alloc (.cells #[.int .i64 k] 3)).alloc (.cells #[.int .i64 (IntKind.i64.wrap f)] 3))).cell? ⟨g + 3, 0, none⟩ = some v' := c14
          go_simp
          refine hK _ _ ?_; clear hK K
          refine wpAnyIn_ready (rs := [4]) (by kernel_rfl) (by simp) ?_
          refine AllReadyIn.cons rfl (fun K hK => ?_) ?_
          · skip
            refine app1I (P0.below (TmA.below_alloc (TmA.below_alloc (Below.drew (Below.refl _ _)) _) _)) (.tmp 68) (.tmp 71) rfl rfl rfl _ (IntKind.i64.wrap f) rfl (by first | exact new_a (by first | rfl | simp) | exact new_b (by first | rfl | simp)) hn1 hla ?_
            intro v1 w1 P1 hk1
            obtain ⟨A1, e1, rfl, _⟩ := Base.slice_of_row P1.o1
            go_simp
            refine hK _ _ ?_; clear hK K
            refine wpAnyIn_ready (rs := [8]) (by kernel_rfl) (by simp) ?_
            refine AllReadyIn.cons rfl (fun K hK => ?_) ?_
            · skip
              refine app2I (P1.below (Below.refl _ _)) (.tmp 73) (.tmp 75) rfl rfl rfl _ k rfl (by first | exact new_a (by first | rfl | simp) | exact hk1 _ _ (by simp) (new_a (by first | rfl | simp)) | exact hk1 _ _ (by simp) (new_b (by first | rfl | simp))) hn2 ?_
              intro v2 w2 P2
              obtain ⟨A2, e2, rfl, _⟩ := Base.slice_of_row P2.o2
              go_simp
              refine hK _ _ ?_; clear hK K
              refine wpAnyIn_ready (rs := [9]) (by kernel_rfl) (by simp) ?_
              refine AllReadyIn.cons rfl (fun K hK => ?_) ?_
              · skip
                have c14 := P2.c1; have f14 := P2.f1; have c15 := P2.c2; have f15 := P2.f2
                go_simp
                refine hK _ _ ?_; clear hK K
                refine wpAnyIn_ready (rs := [10]) (by kernel_rfl) (by simp) ?_
                refine AllReadyIn.cons rfl (fun K hK => ?_) AllReadyIn.nil
                go_simp
                refine hK _ _ ?_; clear hK K
                refine wpAnyIn_done (by kernel_rfl) ?_ _
                exact hfin _ _ _ _ (by simpa using P2)
              exact AllReadyIn.nil
            exact AllReadyIn.nil
          exact AllReadyIn.nil
        exact AllReadyIn.nil
      refine AllReadyIn.cons rfl (fun K hK => ?_) ?_
      · skip
        have c14 : ((W.drew.alloc (.cells #[.int .i64 k] 3))).cell? ⟨g + 3, 0, none⟩ = some v' := (P0.below (TmA.below_alloc (Below.drew (Below.refl _ _)) _)).c2
        have c14b : ((W.alloc (.cells #[.int .i64 k] 3))).cell? ⟨g + 3, 0, none⟩ = some v' := c14
        go_simp
        refine hK _ _ ?_; clear hK K
        refine wpAnyIn_ready (rs := [3]) (by kernel_rfl) (by simp) ?_
        refine AllReadyIn.cons rfl (fun K hK => ?_) ?_
        · skip
          go_simp
          refine hK _ _ ?_; clear hK K
          refine wpAnyIn_ready (rs := [4]) (by kernel_rfl) (by simp) ?_
          refine AllReadyIn.cons rfl (fun K hK => ?_) ?_
          · skip
            refine app1I (P0.below (TmA.below_alloc (TmA.below_alloc (Below.drew (Below.refl _ _)) _) _)) (.tmp 68) (.tmp 71) rfl rfl rfl _ (IntKind.i64.wrap f) rfl (by first | exact new_a (by first | rfl | simp) | exact new_b (by first | rfl | simp)) hn1 hla ?_
            intro v1 w1 P1 hk1
            obtain ⟨A1, e1, rfl, _⟩ := Base.slice_of_row P1.o1
            go_simp
            refine hK _ _ ?_; clear hK K
            refine wpAnyIn_ready (rs := [8]) (by kernel_rfl) (by simp) ?_
            refine AllReadyIn.cons rfl (fun K hK => ?_) ?_
            · skip
              refine app2I (P1.below (Below.refl _ _)) (.tmp 73) (.tmp 75) rfl rfl rfl _ k rfl (by first | exact new_a (by first | rfl | simp) | exact hk1 _ _ (by simp) (new_a (by first | rfl | simp)) | exact hk1 _ _ (by simp) (new_b (by first | rfl | simp))) hn2 ?_
              intro v2 w2 P2
              obtain ⟨A2, e2, rfl, _⟩ := Base.slice_of_row P2.o2
              go_simp
              refine hK _ _ ?_; clear hK K
              refine wpAnyIn_ready (rs := [9]) (by kernel_rfl) (by simp) ?_
              refine AllReadyIn.cons rfl (fun K hK => ?_) ?_
              · skip
                have c14 := P2.c1; have f14 := P2.f1; have c15 := P2.c2; have f15 := P2.f2
                go_simp
                refine hK _ _ ?_; clear hK K
                refine wpAnyIn_ready (rs := [10]) (by kernel_rfl) (by simp) ?_
                refine AllReadyIn.cons rfl (fun K hK => ?_) AllReadyIn.nil
                go_simp
                refine hK _ _ ?_; clear hK K
                refine wpAnyIn_done (by kernel_rfl) ?_ _
                exact hfin _ _ _ _ (by simpa using P2)
              exact AllReadyIn.nil
            exact AllReadyIn.nil
          exact AllReadyIn.nil
        exact AllReadyIn.nil
      exact AllReadyIn.nil
    refine AllReadyIn.cons rfl (fun K hK => ?_) ?_
    · skip
      go_simp
      refine hK _ _ ?_; clear hK K
      refine wpAnyIn_ready (rs := [0, 5]) (by kernel_rfl) (by simp) ?_
      refine AllReadyIn.cons rfl (fun K hK => ?_) ?_
      · skip
        have c14 : (((W.drew.alloc (.cells #[.int .i64 k] 3)).alloc (.cells #[.int .i64 (IntKind.i64.wrap f)] 3))).cell? ⟨g + 2, 0, none⟩ = some v := (P0.below (TmA.below_alloc (TmA.below_alloc (Below.drew (Below.refl _ _)) _) _)).c1
        have c14b : (((W.alloc (.cells #[.int .i64 k] 3)).alloc (.cells #[.int .i64 (IntKind.i64.wrap f)] 3))).cell? ⟨g + 2, 0, none⟩ = some v := c14
        go_simp
        refine hK _ _ ?_; clear hK K
        refine wpAnyIn_ready (rs := [4, 5]) (by kernel_rfl) (by simp) ?_
        refine AllReadyIn.cons rfl (fun K hK => ?_) ?_
        · skip
          refine app1I (P0.below (TmA.below_alloc (TmA.below_alloc (Below.drew (Below.refl _ _)) _) _)) (.tmp 68) (.tmp 71) rfl rfl rfl _ (IntKind.i64.wrap f) rfl (by first | exact new_a (by first | rfl | simp) | exact new_b (by first | rfl | simp)) hn1 hla ?_
          intro v1 w1 P1 hk1
          obtain ⟨A1, e1, rfl, _⟩ := Base.slice_of_row P1.o1
          go_simp
          refine hK _ _ ?_; clear hK K
          refine wpAnyIn_ready (rs := [5]) (by kernel_rfl) (by simp) ?_
          refine AllReadyIn.cons rfl (fun K hK => ?_) ?_
          · skip
            have c14 : (w1).cell? ⟨g + 3, 0, none⟩ = some v' := (P1.below (Below.refl _ _)).c2
            go_simp
            refine hK _ _ ?_; clear hK K
            refine wpAnyIn_ready (rs := [8]) (by kernel_rfl) (by simp) ?_
            refine AllReadyIn.cons rfl (fun K hK => ?_) ?_
            · skip
              refine app2I (P1.below (Below.refl _ _)) (.tmp 73) (.tmp 75) rfl rfl rfl _ k rfl (by first | exact new_a (by first | rfl | simp) | exact hk1 _ _ (by simp) (new_a (by first | rfl | simp)) | exact hk1 _ _ (by simp) (new_b (by first | rfl | simp))) hn2 ?_
              intro v2 w2 P2
              obtain ⟨A2, e2, rfl, _⟩ := Base.slice_of_row P2.o2
              go_simp
              refine hK _ _ ?_; clear hK K
              refine wpAnyIn_ready (rs := [9]) (by kernel_rfl) (by simp) ?_
              refine AllReadyIn.cons rfl (fun K hK => ?_) ?_
              · skip
                have c14 := P2.c1; have f14 := P2.f1; have c15 := P2.c2; have f15 := P2.f2
                go_simp
                refine hK _ _ ?_; clear hK K
                refine wpAnyIn_ready (rs := [10]) (by kernel_rfl) (by simp) ?_
                refine AllReadyIn.cons rfl (fun K hK => ?_) AllReadyIn.nil
                go_simp
                refine hK _ _ ?_; clear hK K
                refine wpAnyIn_done (by kernel_rfl) ?_ _
                exact hfin _ _ _ _ (by simpa using P2)
              exact AllReadyIn.nil
            exact AllReadyIn.nil
          exact AllReadyIn.nil
        refine AllReadyIn.cons rfl (fun K hK => ?_) ?_
        · skip
          have c14 : (((W.drew.alloc (.cells #[.int .i64 k] 3)).alloc (.cells #[.int .i64 (IntKind.i64.wrap f)] 3))).cell? ⟨g + 3, 0, none⟩ = some v' := (P0.below (TmA.below_alloc (TmA.below_alloc (Below.drew (Below.refl _ _)) _) _)).c2
          have c14b : (((W.alloc (.cells #[.int .i64 k] 3)).alloc (.cells #[.int .i64 (IntKind.i64.wrap f)] 3))).cell? ⟨g + 3, 0, none⟩ = some v' := c14
          go_simp
          refine hK _ _ ?_; clear hK K
          refine wpAnyIn_ready (rs := [4]) (by kernel_rfl) (by simp) ?_
          refine AllReadyIn.cons rfl (fun K hK => ?_) ?_
          · skip
            refine app1I (P0.below (TmA.below_alloc (TmA.below_alloc (Below.drew (Below.refl _ _)) _) _)) (.tmp 68) (.tmp 71) rfl rfl rfl _ (IntKind.i64.wrap f) rfl (by first | exact new_a (by first | rfl | simp) | exact new_b (by first | rfl | simp)) hn1 hla ?_
            intro v1 w1 P1 hk1
            obtain ⟨A1, e1, rfl, _⟩ := Base.slice_of_row P1.o1
            go_simp
            refine hK _ _ ?_; clear hK K
            refine wpAnyIn_ready (rs := [8]) (by kernel_rfl) (by simp) ?_
            refine AllReadyIn.cons rfl (fun K hK => ?_) ?_
            · skip
              refine app2I (P1.below (Below.refl _ _)) (.tmp 73) (.tmp 75) rfl rfl rfl _ k rfl (by first | exact new_a (by first | rfl | simp) | exact hk1 _ _ (by simp) (new_a (by first | rfl | simp)) | exact hk1 _ _ (by simp) (new_b (by first | rfl | simp))) hn2 ?_
              intro v2 w2 P2
              obtain ⟨A2, e2, rfl, _⟩ := Base.slice_of_row P2.o2
              go_simp
              refine hK _ _ ?_; clear hK K
              refine wpAnyIn_ready (rs := [9]) (by kernel_rfl) (by simp) ?_
              refine AllReadyIn.cons rfl (fun K hK => ?_) ?_
              · skip
                have c14 := P2.c1; have f14 := P2.f1; have c15 := P2.c2; have f15 := P2.f2
                go_simp
                refine hK _ _ ?_; clear hK K
                refine wpAnyIn_ready (rs := [10]) (by kernel_rfl) (by simp) ?_
                refine AllReadyIn.cons rfl (fun K hK => ?_) AllReadyIn.nil
                go_simp
                refine hK _ _ ?_; clear hK K
                refine wpAnyIn_done (by kernel_rfl) ?_ _
                exact hfin _ _ _ _ (by simpa using P2)
              exact AllReadyIn.nil
            exact AllReadyIn.nil
          exact AllReadyIn.nil
        exact AllReadyIn.nil
      refine AllReadyIn.cons rfl (fun K hK => ?_) ?_
      · skip
        have c14 : (((W.drew.alloc (.cells #[.int .i64 k] 3)).alloc (.cells #[.int .i64 (IntKind.i64.wrap f)] 3))).cell? ⟨g + 3, 0, none⟩ = some v' := (P0.below (TmA.below_alloc (TmA.below_alloc (Below.drew (Below.refl _ _)) _) _)).c2
        have c14b : (((W.alloc (.cells #[.int .i64 k] 3)).alloc (.cells #[.int .i64 (IntKind.i64.wrap f)] 3))).cell? ⟨g + 3, 0, none⟩ = some v' := c14
        go_simp
        refine hK _ _ ?_; clear hK K
        refine wpAnyIn_ready (rs := [0]) (by kernel_rfl) (by simp) ?_
        refine AllReadyIn.cons rfl (fun K hK => ?_) ?_
        · skip
          have c14 : (((W.drew.alloc (.cells #[.int .i64 k] 3)).alloc (.cells #[.int .i64 (IntKind.i64.wrap f)] 3))).cell? ⟨g + 2, 0, none⟩ = some v := (P0.below (TmA.below_alloc (TmA.below_alloc (Below.drew (Below.refl _ _)) _) _)).c1
          have c14b : (((W.alloc (.cells #[.int .i64 k] 3)).alloc (.cells #[.int .i64 (IntKind.i64.wrap f)] 3))).cell? ⟨g + 2, 0, none⟩ = some v := c14
          go_simp
          refine hK _ _ ?_; clear hK K
          refine wpAnyIn_ready (rs := [4]) (by kernel_rfl) (by simp) ?_
          refine AllReadyIn.cons rfl (fun K hK => ?_) ?_
          · skip
            refine app1I (P0.below (TmA.below_alloc (TmA.below_alloc (Below.drew (Below.refl _ _)) _) _)) (.tmp 68) (.tmp 71) rfl rfl rfl _ (IntKind.i64.wrap f) rfl (by first | exact new_a (by first | rfl | simp) | exact new_b (by first | rfl | simp)) hn1 hla ?_
            intro v1 w1 P1 hk1
            obtain ⟨A1, e1, rfl, _⟩ := Base.slice_of_row P1.o1
            go_simp
            refine hK _ _ ?_; clear hK K
            refine wpAnyIn_ready (rs := [8]) (by kernel_rfl) (by simp) ?_
            refine AllReadyIn.cons rfl (fun K hK => ?_) ?_
            · skip
              refine app2I (P1.below (Below.refl _ _)) (.tmp 73) (.tmp 75) rfl rfl rfl _ k rfl (by first | exact new_a (by first | rfl | simp) | exact hk1 _ _ (by simp) (new_a (by first | rfl | simp)) | exact hk1 _ _ (by simp) (new_b (by first | rfl | simp))) hn2 ?_
              intro v2 w2 P2
              obtain ⟨A2, e2, rfl, _⟩ := Base.slice_of_row P2.o2
              go_simp
              refine hK _ _ ?_; clear hK K
              refine wpAnyIn_ready (rs := [9]) (by kernel_rfl) (by simp) ?_
              refine AllReadyIn.cons rfl (fun K hK => ?_) ?_
              · skip
                have c14 := P2.c1; have f14 := P2.f1; have c15 := P2.c2; have f15 := P2.f2
                go_simp
                refine hK _ _ ?_; clear hK K
                refine wpAnyIn_ready (rs := [10]) (by kernel_rfl) (by simp) ?_
                refine AllReadyIn.cons rfl (fun K hK => ?_) AllReadyIn.nil
                go_simp
                refine hK _ _ ?_; clear hK K
                refine wpAnyIn_done (by kernel_rfl) ?_ _
                exact hfin _ _ _ _ (by simpa using P2)
              exact AllReadyIn.nil
            exact AllReadyIn.nil
          exact AllReadyIn.nil
        exact AllReadyIn.nil
      exact AllReadyIn.nil
    refine AllReadyIn.cons rfl (fun K hK => ?_) ?_
    · skip
      have c14 : ((W.drew.alloc (.cells #[.int .i64 k] 3))).cell? ⟨g + 3, 0, none⟩ = some v' := (P0.below (TmA.below_alloc (Below.drew (Below.refl _ _)) _)).c2
      have c14b : ((W.alloc (.cells #[.int .i64 k] 3))).cell? ⟨g + 3, 0, none⟩ = some v' := c14
      go_simp
      refine hK _ _ ?_; clear hK K
      refine wpAnyIn_ready (rs := [0, 3]) (by kernel_rfl) (by simp) ?_
      refine AllReadyIn.cons rfl (fun K hK => ?_) ?_
      · skip
        have c14 : ((W.drew.alloc (.cells #[.int .i64 k] 3))).cell? ⟨g + 2, 0, none⟩ = some v := (P0.below (TmA.below_alloc (Below.drew (Below.refl _ _)) _)).c1
        have c14b : ((W.alloc (.cells #[.int .i64 k] 3))).cell? ⟨g + 2, 0, none⟩ = some v := c14
        go_simp
        refine hK _ _ ?_; clear hK K
        refine wpAnyIn_ready (rs := [3]) (by kernel_rfl) (by simp) ?_
        refine AllReadyIn.cons rfl (fun K hK => ?_) ?_
        · skip
          go_simp
          refine hK _ _ ?_; clear hK K
          refine wpAnyIn_ready (rs := [4]) (by kernel_rfl) (by simp) ?_
          refine AllReadyIn.cons rfl (fun K hK => ?_) ?_
          · skip
            refine app1I (P0.below (TmA.below_alloc (TmA.below_alloc (Below.drew (Below.refl _ _)) _) _)) (.tmp 68) (.tmp 71) rfl rfl rfl _ (IntKind.i64.wrap f) rfl (by first | exact new_a (by first | rfl | simp) | exact new_b (by first | rfl | simp)) hn1 hla ?_
            intro v1 w1 P1 hk1
            obtain ⟨A1, e1, rfl, _⟩ := Base.slice_of_row P1.o1
            go_simp
            refine hK _ _ ?_; clear hK K
            refine wpAnyIn_ready (rs := [8]) (by kernel_rfl) (by simp) ?_
            refine AllReadyIn.cons rfl (fun K hK => ?_) ?_
            · skip
              refine app2I (P1.below (Below.refl _ _)) (.tmp 73) (.tmp 75) rfl rfl rfl _ k rfl (by first | exact new_a (by first | rfl | simp) | exact hk1 _ _ (by simp) (new_a (by first | rfl | simp)) | exact hk1 _ _ (by simp) (new_b (by first | rfl | simp))) hn2 ?_
              intro v2 w2 P2
              obtain ⟨A2, e2, rfl, _⟩ := Base.slice_of_row P2.o2
              go_simp
              refine hK _ _ ?_; clear hK K
              refine wpAnyIn_ready (rs := [9]) (by kernel_rfl) (by simp) ?_
              refine AllReadyIn.cons rfl (fun K hK => ?_) ?_
              · skip
                have c14 := P2.c1; have f14 := P2.f1; have c15 := P2.c2; have f15 := P2.f2
                go_simp
                refine hK _ _ ?_; clear hK K
                refine wpAnyIn_ready (rs := [10]) (by kernel_rfl) (by simp) ?_
                refine AllReadyIn.cons rfl (fun K hK => ?_) AllReadyIn.nil
                go_simp
                refine hK _ _ ?_; clear hK K
                refine wpAnyIn_done (by kernel_rfl) ?_ _
                exact hfin _ _ _ _ (by simpa using P2)
              exact AllReadyIn.nil
            exact AllReadyIn.nil
          exact AllReadyIn.nil
        exact AllReadyIn.nil
      refine AllReadyIn.cons rfl (fun K hK => ?_) ?_
      · skip
        go_simp
        refine hK _ _ ?_; clear hK K
        refine wpAnyIn_ready (rs := [0]) (by kernel_rfl) (by simp) ?_
        refine AllReadyIn.cons rfl (fun K hK => ?_) ?_
        · skip
          have c14 : (((W.drew.alloc (.cells #[.int .i64 k] 3)).alloc (.cells #[.int .i64 (IntKind.i64.wrap f)] 3))).cell? ⟨g + 2, 0, none⟩ = some v := (P0.below (TmA.below_alloc (TmA.below_alloc (Below.drew (Below.refl _ _)) _) _)).c1
          have c14b : (((W.alloc (.cells #[.int .i64 k] 3)).alloc (.cells #[.int .i64 (IntKind.i64.wrap f)] 3))).cell? ⟨g + 2, 0, none⟩ = some v := c14
          go_simp
          refine hK _ _ ?_; clear hK K
          refine wpAnyIn_ready (rs := [4]) (by kernel_rfl) (by simp) ?_
          refine AllReadyIn.cons rfl (fun K hK => ?_) ?_
          · skip
            refine app1I (P0.below (TmA.below_alloc (TmA.below_alloc (Below.drew (Below.refl _ _)) _) _)) (.tmp 68) (.tmp 71) rfl rfl rfl _ (IntKind.i64.wrap f) rfl (by first | exact new_a (by first | rfl | simp) | exact new_b (by first | rfl | simp)) hn1 hla ?_
            intro v1 w1 P1 hk1
            obtain ⟨A1, e1, rfl, _⟩ := Base.slice_of_row P1.o1
            go_simp
            refine hK _ _ ?_; clear hK K
            refine wpAnyIn_ready (rs := [8]) (by kernel_rfl) (by simp) ?_
            refine AllReadyIn.cons rfl (fun K hK => ?_) ?_
            · skip
              refine app2I (P1.below (Below.refl _ _)) (.tmp 73) (.tmp 75) rfl rfl rfl _ k rfl (by first | exact new_a (by first | rfl | simp) | exact hk1 _ _ (by simp) (new_a (by first | rfl | simp)) | exact hk1 _ _ (by simp) (new_b (by first | rfl | simp))) hn2 ?_
              intro v2 w2 P2
              obtain ⟨A2, e2, rfl, _⟩ := Base.slice_of_row P2.o2
              go_simp
              refine hK _ _ ?_; clear hK K
              refine wpAnyIn_ready (rs := [9]) (by kernel_rfl) (by simp) ?_
              refine AllReadyIn.cons rfl (fun K hK => ?_) ?_
              · skip
                have c14 := P2.c1; have f14 := P2.f1; have c15 := P2.c2; have f15 := P2.f2
                go_simp
                refine hK _ _ ?_; clear hK K
                refine wpAnyIn_ready (rs := [10]) (by kernel_rfl) (by simp) ?_
                refine AllReadyIn.cons rfl (fun K hK => ?_) AllReadyIn.nil
                go_simp
                refine hK _ _ ?_; clear hK K
                refine wpAnyIn_done (by kernel_rfl) ?_ _
                exact hfin _ _ _ _ (by simpa using P2)
              exact AllReadyIn.nil
            exact AllReadyIn.nil
          exact AllReadyIn.nil
        exact AllReadyIn.nil
      exact AllReadyIn.nil
    exact AllReadyIn.nil
  exact AllReadyIn.nil
end Go.Proofs.Ytidbkkebkgeioaa.Sl
