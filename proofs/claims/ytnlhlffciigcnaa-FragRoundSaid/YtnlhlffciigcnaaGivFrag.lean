import Derived.Test.YtnlhlffciigcnaaQFragx0
import Derived.Test.YtnlhlffciigcnaaLeftWalk
import Derived.Test.YtnlhlffciigcnaaFragA
import Derived.Outline
namespace Go.Proofs.Ytnlhlffciigcnaa.QFrag
open Go.RowKit Go.Proofs.YtnlhlffciigcnaaW.PrintWords Go.Proofs.YtnlhlffciigcnaaW.PrintLast Go.Proofs.YtnlhlffciigcnaaW.PrintMore Go.ChangeShapes Go.WideShapes Go.ChangeAt Go.Shelf
open Base (hid slice_of_row ret_bool cell_new1 cell_old1 froz_new1 froz_old1)
open It (FW Keep)
attribute [local go_sem] Oper.semAt_some
/-! ### Cut -/
def piece (st : Int) (un : Bool) (l : List Int) (tsn seq : Int) (s : Nat) (j x : Nat) : S93 := ⟨(tsn + (j : Int) % 4294967296) % 4294967296, IntKind.u16.wrap st, if un then 0 else seq, false, false, un, (l.drop (x * s)).take s⟩
/-- The pieces of the parts that came. -/
def pcs (st : Int) (un : Bool) (l : List Int) (tsn seq : Int) (s : Nat) : List Nat → List S93 := fun pre => pre.zipIdx.map fun p => piece st un l tsn seq s p.2 p.1
theorem pcs_snoc (st : Int) (un : Bool) (l : List Int) (tsn seq : Int) (s : Nat) (pre : List Nat) (x : Nat) : pcs st un l tsn seq s (pre ++ [x]) = pcs st un l tsn seq s pre ++ [piece st un l tsn seq s pre.length x] := by
  unfold pcs
  rw [List.zipIdx_append, List.map_append]
  simp
theorem pcs_len (st : Int) (un : Bool) (l : List Int) (tsn seq : Int) (s : Nat) (pre : List Nat) : (pcs st un l tsn seq s pre).length = pre.length := by simp [pcs]
/-- The first one and the last one marked. -/
def marked (ps : List S93) : List S93 :=
  let qs := ps.set 0 { (ps.getD 0 z93) with f3 := true }
  qs.set (qs.length - 1) { (qs.getD (qs.length - 1) z93) with f4 := true }
def frag_Cut.f (st : Int) (un : Bool) (l : List Int) (tsn seq s : Int) : Option (List S93 × Option Int) :=
  if l.length > 100000 then none else
  if goodB st l.length = false then some ([], some 2) else
  if withinB s 1 64 = false then some ([], some 1) else
  some (marked (pcs st un l tsn seq s.toNat (List.range (parts l.length s.toNat))), none)
set_option maxRecDepth 100000 in
set_option maxHeartbeats 4000000 in
theorem cut_bad (st : Int) (un : Bool) (A : Option Addr) (c : Nat) (l : List Int) (tsn seq s : Int) (w : World) (hg : goodB st l.length = false) :
    CallsIn FW 9 Try.prog 42 #[.agg #[.int .i64 st, .bool un, .slice A l.length c], .agg #[.int .u32 tsn, .int .u16 seq, .int .i64 s]] w fun e w' => e = .returned (.tuple #[.slice none 0 0, .iface 68 (.int .i64 2)]) ∧ Below w.heap.size w w' := by
  have f42 : FW.fn 44 := trivial
  have f67 : FW.fn 74 := trivial
  refine callsIn_of_wp_marks Try.func42 rfl trivial ?_ rfl
  simp only [Try.ntmps42, List.size_toArray, List.length_cons, List.length_nil, Nat.reduceAdd, Nat.reduceSub, Array.replicate_succ, Array.replicate_zero, List.push_toArray, List.append_toArray, List.nil_append, List.cons_append]
  gi_wp2_with (gi_at_call 44; refine (callsIn_wide.2 (good_calls _ _ _ _ _ _)).mono ?_; rintro e w' ⟨rfl, hb⟩)
  have hB := (((Below.refl _ w).alloc (Nat.le_refl _) (.cells #[.int .i64 st, .bool un, .slice A l.length c] 77)).alloc (by simp) (.cells #[.int .u32 tsn, .int .u16 seq, .int .i64 s] 79)).trans (hb.mono (by simp; omega))
  exact ⟨_, results_tmp2 rfl _ _ _, rfl, hB⟩
set_option maxRecDepth 100000 in
set_option maxHeartbeats 4000000 in
theorem cut_size (st : Int) (un : Bool) (A : Option Addr) (c : Nat) (l : List Int) (tsn seq s : Int) (w : World) (hg : goodB st l.length = true) (hs : withinB s 1 64 = false) :
    CallsIn FW 9 Try.prog 42 #[.agg #[.int .i64 st, .bool un, .slice A l.length c], .agg #[.int .u32 tsn, .int .u16 seq, .int .i64 s]] w fun e w' => e = .returned (.tuple #[.slice none 0 0, .iface 68 (.int .i64 1)]) ∧ Below w.heap.size w w' := by
  have f42 : FW.fn 44 := trivial
  have f67 : FW.fn 74 := trivial
  refine callsIn_of_wp_marks Try.func42 rfl trivial ?_ rfl
  simp only [Try.ntmps42, List.size_toArray, List.length_cons, List.length_nil, Nat.reduceAdd, Nat.reduceSub, Array.replicate_succ, Array.replicate_zero, List.push_toArray, List.append_toArray, List.nil_append, List.cons_append]
  obtain ⟨W0, hW0⟩ : ∃ W0 : World, W0 = (w.alloc (.cells #[.int .i64 st, .bool un, .slice A l.length c] 77)).alloc (.cells #[.int .u32 tsn, .int .u16 seq, .int .i64 s] 79) := ⟨_, rfl⟩
  have z0 : W0.heap.size = w.heap.size + 2 := by rw [hW0]; simp
  have hB0 : Below w.heap.size w W0 := by rw [hW0]; exact (((Below.refl _ w).alloc (Nat.le_refl _) _).alloc (by simp) _)
  have k1 : W0.cell? ⟨w.heap.size + 1, 2, none⟩ = some (.int .i64 s) := by rw [hW0, cell_new1 _ _ _ _ (by simp)]; rfl
  have hW := hid hW0
  clear hW0
  gi_wp2_with (first | (gi_at_call 44; rw [← hW.out]; refine (callsIn_wide.2 (good_calls _ _ _ _ _ _)).mono ?_; rintro e w' ⟨rfl, hb⟩; have k1' := (hb.cell (p := ⟨w.heap.size + 1, 2, none⟩) (by simp; omega)).trans k1) | (gi_at_call 74; refine (callsIn_wide.2 (within_calls _ _ _ _)).mono ?_; rintro e w' ⟨rfl, rfl⟩))
  exact ⟨_, results_tmp2 rfl _ _ _, rfl, hB0.trans (hb.mono (by omega))⟩
theorem wpListIn_append_own_at {F : Fence} {n : Nat} {P : Program} (w : World) {ops : Array Oper} {rest : List Oper} {o : Oper} {a : Act} {Q : Exit → Act → World → Prop}
    (hg : o.guard = none) (s x : Operand) (t : TypeId) (hop : o.op = Op.call { callee := Callee.builtin Builtin.append, args := #[s, x], argTypes := #[t, t] })
    (base : Nat) (e : TypeId) (i : TypeInfo) (z : Value) (size bytes : Nat) (h1 : P.underlying t = some (.slice e)) (h2 : P.info? e = some i) (h3 : i.zero = some z) (h4 : i.size = size) (h5 : i.bytes = bytes) (h6 : z.cells.size = size) (h7 : 0 < size)
    (v : Value) (k : Nat) (xs : List Value) (hs : a.eval s = v) (hown : w.ownsRow base e size v k xs) (ad : Addr) (m c : Nat) (news : List Value) (hx : a.eval x = .slice (some ad) m c) (hn : news.length = m * size)
    (hc : ∀ j u, news[j]? = some u → w.cell? (ad.add j) = some u) (h1c : ∀ u ∈ news, u.oneCell' = true) (b1 : k + m ≤ maxLen) (b2 : (k + m) * bytes ≤ 140737488355328) (b3 : base ≤ w.heap.size)
    (hK : ∀ v' w', w'.ownsRow base e size v' (k + m) (xs ++ news) → w.grownBy w' v.ownBlock → (v'.ownBlock = v.ownBlock ∨ v'.ownBlock = some w.heap.size) → wpListIn F n P ops Q rest (a.put o.dst v') w') :
    wpListIn F n P ops Q (o :: rest) a w := by
  refine wpListIn_plain hg fun K hK' => ?_
  obtain ⟨v', w', hrun, r1, r2, _, r4⟩ := run_append_own_at (P := P) w base t o.type e i z size bytes h1 h2 h3 h4 h5 h6 h7 v k xs hown ad m c news hn hc h1c b1 b2 b3
  unfold Oper.wpIn
  refine ⟨?_, ?_⟩
  · simp [Oper.about, hop, resolve, Target.leads, Sem.run_pure]
  · rw [Oper.semAt_plain F _ _ (by rw [hop]; intro c hc'; cases hc')]
    simp [execOp, hop, resolve, invoke, builtin, hs, hx, hrun, Result.andThen]
    exact hK' _ _ (hK v' w' r1 r2 r4)
theorem add_addN (a : Addr) (i j : Nat) (hi : i = 0 ∨ 0 < i) : (a.add i).add j = a.add (i + j) := by
  unfold Addr.add
  by_cases h1 : i = 0
  · subst h1; simp
  · by_cases h2 : j = 0
    · subst h2; simp
    · rw [if_neg h1, if_neg h2, if_neg (by omega)]
      simp [Nat.add_assoc]
/-- A part of a row that is read. -/
theorem C_part {k : IntKind} {w : World} {ad : Addr} {l : List Int} (h : (Kd.int k).C w (some ad) l.length l) (i m : Nat) : (Kd.int k).C w (some (ad.add i)) ((l.drop i).take m).length ((l.drop i).take m) := by
  have hl : ((l.drop i).take m).length ≤ l.length := by simp; omega
  refine Kd.C_of_reads (d := (0 : Int)) ⟨rfl, by have := h.2.1; omega, fun h0 => ⟨_, rfl, fun j hj => ?_⟩⟩
  have hj2 : j < m ∧ i + j < l.length := by simp at hj; omega
  obtain ⟨ad', e, hc⟩ := Kd.at_int h ((i + j : Nat) : Int) (by omega) (by omega)
  cases e
  rw [Int.toNat_natCast] at hc
  rw [add_addN _ _ _ (by omega), hc, show rd l ((i + j : Nat) : Int) = l.getD (i + j) 0 by unfold rd; rw [Int.toNat_natCast]]
  simp [List.getElem?_take_of_lt hj2.1]
theorem part_eq (ad : Addr) (l : List Int) (s x : Nat) : part ad l.length s x = .slice (some (ad.add (x * s))) ((l.drop (x * s)).take s).length ((l.drop (x * s)).take s).length := by
  unfold part
  simp
/-- A piece more. -/
theorem R_push {W w1 : World} {base : Nat} {v v1 v6 : Value} {xs : List S93} {inner : List Value} {p : S93} (h0 : Reps (k93.M W base (fun k => True ∧ some k ≠ v.ownBlock)) 7 xs inner) (h6 : (Kd.int .u8).R 5 W base (fun k => some k ≠ v.ownBlock) v6 p.f6)
    (hown : w1.ownsRow base 93 7 v1 (xs.length + 1) (inner ++ [.int .u32 p.f0, .int .u16 p.f1, .int .u16 p.f2, .bool p.f3, .bool p.f4, .bool p.f5, v6])) (hg : W.grownBy w1 v.ownBlock) (hat : v1.ownBlock = v.ownBlock ∨ v1.ownBlock = some W.heap.size) :
    Kd.R k93 93 w1 base (fun _ => True) v1 (xs ++ [p]) :=
  Kd.R_appended (d := k93) (e := 93) (ok := fun _ => True) (okp := fun k => some k ≠ v.ownBlock) (fun _ _ => trivial) h0 (k93_mkM W base _ p h6) (fun _ hk => ⟨trivial, hk⟩) (fun _ _ => trivial) hown hg (hat.imp id fun h => ⟨_, h, Nat.le_refl _⟩)
theorem R_other {W W' : World} {B : Nat} {v : Value} {xs : List S93} {row : Option Nat} (h : Kd.R k93 93 W B (fun _ => True) v xs) (hg : W.grownBy W' row) (hr : ∀ k, row = some k → ∃ o : Obj, W.heap[k]? = some o ∧ o.isCells = false) : Kd.R k93 93 W' B (fun _ => True) v xs :=
  Kd.R_mono (Kd.R_step (Kd.R_bound h) (fun k hk hlt => hg.block k hlt (fun e => by
    obtain ⟨o, ho, hc⟩ := hr k e.symm
    obtain ⟨q, _, cells, hq⟩ := hk.2.2.2
    rw [hq] at ho
    cases ho
    cases hc))) (fun _ _ => trivial)
theorem R_elem {W : World} {B g n cap : Nat} {xs : List S93} (h : Kd.R k93 93 W B (fun _ => True) (.slice (some ⟨g, 0, none⟩) n cap) xs) (i : Nat) (hi : i < xs.length) : ∃ v6, (Kd.int .u8).R 5 W B (fun k => True ∧ some k ≠ (Value.slice (some ⟨g, 0, none⟩) n cap).ownBlock) v6 xs[i].f6 ∧
    (∀ j u, [Value.int .u32 xs[i].f0, .int .u16 xs[i].f1, .int .u16 xs[i].f2, .bool xs[i].f3, .bool xs[i].f4, .bool xs[i].f5, v6][j]? = some u → W.cell? ⟨g, i * 7 + j, none⟩ = some u) := by
  obtain ⟨_, inner, ho, hr⟩ := h
  obtain ⟨v6, e, r6⟩ := k93_openM (hr.2 i xs[i] (by simp [hi]))
  refine ⟨v6, r6, fun j u hj => ?_⟩
  rw [← e] at hj
  have hj7 : j < 7 := by
    rcases Nat.lt_or_ge j 7 with h | h
    · exact h
    · rw [List.getElem?_eq_none (by rw [List.length_take]; show min 7 _ ≤ j; omega)] at hj
      cases hj
  have hc := ho.cells (g := g) rfl (i * 7 + j) u (by
    rw [List.getElem?_take_of_lt (by exact hj7)] at hj
    rw [← hj, List.getElem?_drop]
    rfl)
  rwa [show (⟨g, 0, none⟩ : Addr).add (i * 7 + j) = ⟨g, i * 7 + j, none⟩ from add_plain _ _ _ |>.trans (by simp)] at hc
theorem R_cells7 {W : World} {B g n cap : Nat} {xs : List S93} (h : Kd.R k93 93 W B (fun _ => True) (.slice (some ⟨g, 0, none⟩) n cap) xs) : n = xs.length ∧ B ≤ g ∧ g < W.heap.size ∧ ∀ j, W.frozen? ⟨g, j, none⟩ = false := by
  have hb := Kd.R_bound h
  obtain ⟨_, hbg, hlt, q, _, cells, hh⟩ := hb.1 g (by simp [Value.ownBlock])
  exact ⟨(Kd.R_reads' h).1, hbg, hlt, fun j => blk_frozen hh _⟩
/-- Begin or End of a piece set. -/
theorem R_mark {W : World} {B g n cap : Nat} {xs : List S93} (h : Kd.R k93 93 W B (fun _ => True) (.slice (some ⟨g, 0, none⟩) n cap) xs) (i : Nat) (hi : i < xs.length) (x' : S93) (j : Nat) (b : Bool)
    (hx : ∀ v6, [Value.int .u32 x'.f0, .int .u16 x'.f1, .int .u16 x'.f2, .bool x'.f3, .bool x'.f4, .bool x'.f5, v6] = [Value.int .u32 xs[i].f0, .int .u16 xs[i].f1, .int .u16 xs[i].f2, .bool xs[i].f3, .bool xs[i].f4, .bool xs[i].f5, v6].take j ++ [.bool b] ++ [Value.int .u32 xs[i].f0, .int .u16 xs[i].f1, .int .u16 xs[i].f2, .bool xs[i].f3, .bool xs[i].f4, .bool xs[i].f5, v6].drop (j + 1)) (h6 : x'.f6 = xs[i].f6) (hj : j < 7) :
    Kd.R k93 93 (W.setCell ⟨g, i * 7 + j, none⟩ (.bool b)) B (fun _ => True) (.slice (some ⟨g, 0, none⟩) n cap) (xs.set i x') ∧ W.grownBy (W.setCell ⟨g, i * 7 + j, none⟩ (.bool b)) (some g) := by
  obtain ⟨v6, r6, hc⟩ := R_elem h i hi
  have hn := (R_cells7 h).1
  have hM : k93.M W B (fun k => True ∧ some k ≠ (Value.slice (some ⟨g, 0, none⟩) n cap).ownBlock) x' ([Value.int .u32 xs[i].f0, .int .u16 xs[i].f1, .int .u16 xs[i].f2, .bool xs[i].f3, .bool xs[i].f4, .bool xs[i].f5, v6].take j ++ [.bool b] ++ [Value.int .u32 xs[i].f0, .int .u16 xs[i].f1, .int .u16 xs[i].f2, .bool xs[i].f3, .bool xs[i].f4, .bool xs[i].f5, v6].drop (j + 1)) := by
    rw [← hx v6]
    exact k93_mkM W B _ x' (by rw [h6]; exact r6)
  have := Kd.R_seg h (i : Int) (by omega) (by omega) (c := [Value.int .u32 xs[i].f0, .int .u16 xs[i].f1, .int .u16 xs[i].f2, .bool xs[i].f3, .bool xs[i].f4, .bool xs[i].f5, v6]) rfl (fun j u hj => by rw [Int.toNat_natCast]; exact hc j u hj) (seg := [.bool b]) (show j + 1 ≤ 7 by omega) hM (fun k hk => ⟨trivial, fun e => hk.2 (by rw [e]; rfl)⟩)
  rw [Int.toNat_natCast] at this
  exact this
theorem good_len {st : Int} {n : Nat} (h : goodB st n = true) : 1 ≤ n ∧ n ≤ 400 := by
  unfold goodB withinB at h
  simp only [Bool.and_eq_true, decide_eq_true_eq] at h
  omega
theorem size_of {s : Int} (h : withinB s 1 64 = true) : ∃ z : Nat, s = z ∧ 1 ≤ z ∧ z ≤ 64 := by
  unfold withinB at h
  simp only [Bool.and_eq_true, decide_eq_true_eq] at h
  exact ⟨s.toNat, by omega, by omega, by omega⟩
theorem Base_grown (W : World) (p : Addr) (v : Value) : W.grownBy (W.setCell p v) (some p.block) := ⟨rfl, rfl, rfl, (KeepsWalks.setCell W _ v).size, fun k _ hne => Below.heap_setCell W p v k (fun e => hne (by rw [e]))⟩
theorem B6 {W W5 : World} {o : Obj} (h : Below (W.alloc o).heap.size (W.alloc o) W5) {u6 u0 : Value} {cs : Array Value} {t : TypeId} : Below W.heap.size W (((W5.setCell ⟨W.heap.size, 0, none⟩ u0).setCell ⟨W.heap.size, 6, none⟩ u6).alloc (.cells cs t)) := by
  have h1 : W.heap.size + 1 ≤ W5.heap.size := by have := h.size; simpa using this
  have h2 : Below W.heap.size W W5 := ((Below.refl _ W).alloc (Nat.le_refl _) o).trans (h.mono (by simp))
  have h3 := h2.grown (Base_grown W5 ⟨W.heap.size, 0, none⟩ u0) (by omega) (fun k e => by cases e; exact Nat.le_refl _)
  have h4 := h3.grown (Base_grown (W5.setCell ⟨W.heap.size, 0, none⟩ u0) ⟨W.heap.size, 6, none⟩ u6) (by simp; omega) (fun k e => by cases e; exact Nat.le_refl _)
  exact h4.alloc (by simp; omega) _
theorem R_setlow {W : World} {B : Nat} {v : Value} {xs : List S93} (h : Kd.R k93 93 W B (fun _ => True) v xs) (p : Addr) (hp : p.block < B) (u : Value) : Kd.R k93 93 (W.setCell p u) B (fun _ => True) v xs :=
  Kd.R_mono (Kd.R_step (Kd.R_bound h) fun k hk _ => Below.heap_setCell W p u k (by have := hk.2.1; omega)) (fun _ _ => trivial)
theorem keeps_below {W W' : World} (h : Below W.heap.size W W') : KeepsOthers W W' := KeepsOthers.of_grownBy (row := none) ⟨h.os, h.tape, h.output, h.size, fun k hk _ => h.block k hk⟩ (fun _ _ e => by cases e)
theorem own_cells {W : World} {B n : Nat} {e : TypeId} {size : Nat} {v : Value} {xs : List Value} (h : W.ownsRow B e size v n xs) (j : Nat) (o : Obj) (hj : v.ownBlock = some j) (ho : W.heap[j]? = some o) : o.isCells = true := by
  rcases h.2 with ⟨rfl, _⟩ | ⟨g, cap, cur, rfl, _, hh, _⟩
  · simp [Value.ownBlock] at hj
  · simp [Value.ownBlock] at hj
    subst hj
    rw [hh] at ho
    cases ho
    rfl
theorem grown_chain {W2 W W6 w' : World} {r : Nat} {row : Option Nat} (h4 : W2.grownBy W (some r)) (h6 : Below W.heap.size W W6) (hg : W6.grownBy w' row) (hrow : ∀ k, row = some k → W2.heap.size ≤ k) (u : Value) : W2.grownBy (w'.setCell ⟨r, 0, none⟩ u) (some r) := by
  have z4 := h4.size
  have z6 := h6.size
  have zg := hg.size
  refine ⟨((hg.os.trans h6.os).trans h4.os), ((hg.tape.trans h6.tape).trans h4.tape), ((hg.output.trans h6.output).trans h4.output), ?_, fun k hk hne => ?_⟩
  · have := (Base_grown w' ⟨r, 0, none⟩ u).size
    omega
  · rw [Below.heap_setCell _ _ _ _ (fun e => hne (by rw [e])), hg.block k (by omega) (fun e => by have := hrow k e.symm; omega), h6.block k (by omega), h4.block k hk hne]
theorem Base_size (w : World) (o : Obj) : (w.alloc o).heap.size = w.heap.size + 1 := by simp
set_option maxRecDepth 100000 in
set_option maxHeartbeats 4000000 in
open Go.Proofs.Ytnlhlffciigcnaa.Left Go.Proofs.Ytnlhlffciigcnaa.It Go.Proofs.Ytnlhlffciigcnaa.Base in
theorem cut_go_true (st : Int) (A : Option Addr) (c : Nat) (l : List Int) (tsn seq : Int) (z : Nat) (w : World) (hr : (Kd.int .u8).C w A l.length l) (hc : l.length ≤ c) (hg : goodB st l.length = true) (hz1 : 1 ≤ z) (hz2 : z ≤ 64) (hs : withinB (z : Int) 1 64 = true) :
    CallsIn FW 9 Try.prog 42 #[.agg #[.int .i64 st, .bool true, .slice A l.length c], .agg #[.int .u32 tsn, .int .u16 seq, .int .i64 (z : Int)]] w fun e w' => ∃ v : Value, e = .returned (.tuple #[v, .nilIface]) ∧ Kd.R k93 93 w' w.heap.size (fun _ => True) v (marked (pcs st true l tsn seq z (List.range (parts l.length z)))) ∧ Below w.heap.size w w' := by
  obtain ⟨i0, hi, hi0, hi1, hi2⟩ := info_parts info93
  have f42 : FW.fn 44 := trivial
  have f67 : FW.fn 74 := trivial
  have f68 : FW.fn 75 := trivial
  have f16 : FW.fn 18 := trivial
  have f69 : FW.fn 76 := trivial
  obtain ⟨hl1, hl2⟩ := good_len hg
  obtain ⟨ad, rfl, _⟩ := Kd.at_int hr 0 (by omega) (by omega)
  have HR := hid hr
  clear hr
  refine callsIn_of_wp_marks Try.func42 rfl trivial ?_ rfl
  simp only [Try.ntmps42, List.size_toArray, List.length_cons, List.length_nil, Nat.reduceAdd, Nat.reduceSub, Array.replicate_succ, Array.replicate_zero, List.push_toArray, List.append_toArray, List.nil_append, List.cons_append]
  obtain ⟨W0, hW0⟩ : ∃ W0 : World, W0 = (w.alloc (.cells #[.int .i64 st, .bool true, .slice (some ad) l.length c] 77)).alloc (.cells #[.int .u32 tsn, .int .u16 seq, .int .i64 (z : Int)] 79) := ⟨_, rfl⟩
  have z0 : W0.heap.size = w.heap.size + 2 := by rw [hW0]; simp
  have hB0 : Below w.heap.size w W0 := by rw [hW0]; exact (((Below.refl _ w).alloc (Nat.le_refl _) _).alloc (by simp) _)
  have k1 : W0.cell? ⟨w.heap.size + 1, 2, none⟩ = some (.int .i64 (z : Int)) := by rw [hW0, cell_new1 _ _ _ _ (by simp)]; rfl
  have k2 : W0.cell? ⟨w.heap.size + 1, 0, none⟩ = some (.int .u32 tsn) := by rw [hW0, cell_new1 _ _ _ _ (by simp)]; rfl
  have k3 : W0.cell? ⟨w.heap.size + 1, 1, none⟩ = some (.int .u16 seq) := by rw [hW0, cell_new1 _ _ _ _ (by simp)]; rfl
  have k4 : W0.cell? ⟨w.heap.size, 0, none⟩ = some (.int .i64 st) := by rw [hW0, cell_old1 _ _ _ (by simp), cell_new1 _ _ _ _ (by simp)]; rfl
  have k5 : W0.cell? ⟨w.heap.size, 1, none⟩ = some (.bool true) := by rw [hW0, cell_old1 _ _ _ (by simp), cell_new1 _ _ _ _ (by simp)]; rfl
  have k6 : W0.cell? ⟨w.heap.size, 2, none⟩ = some (.slice (some ad) l.length c) := by rw [hW0, cell_old1 _ _ _ (by simp), cell_new1 _ _ _ _ (by simp)]; rfl
  have y2 : w.heap.size < W0.heap.size := by omega
  have y3 : w.heap.size + 1 < W0.heap.size := by omega
  have hW := hid hW0
  clear hW0
  gi_wp2_with (first
    | (gi_at_call 44; go_loud (rw [← hW.out]; refine (callsIn_wide.2 (good_calls _ _ _ _ _ _)).mono ?_; rintro e W1 ⟨rfl, hb⟩; have hz1' := hb.size; replace k1 := (hb.cell (p := ⟨w.heap.size + 1, 2, none⟩) y3).trans k1; replace k2 := (hb.cell (p := ⟨w.heap.size + 1, 0, none⟩) y3).trans k2; replace k3 := (hb.cell (p := ⟨w.heap.size + 1, 1, none⟩) y3).trans k3; replace k4 := (hb.cell (p := ⟨w.heap.size, 0, none⟩) y2).trans k4; replace k5 := (hb.cell (p := ⟨w.heap.size, 1, none⟩) y2).trans k5; replace k6 := (hb.cell (p := ⟨w.heap.size, 2, none⟩) y2).trans k6; replace hb := hid hb; have y0 : w.heap.size < W1.heap.size := (by omega); have y1 : w.heap.size + 1 < W1.heap.size := (by omega)))
    | (gi_at_call 74; refine (callsIn_wide.2 (within_calls _ _ _ _)).mono ?_; rintro e w' ⟨rfl, rfl⟩)
    | (gi_at_call 75; refine (callsIn_wide.2 (chunk_any _ _ _ _ (by omega) _)).mono ?_; rintro e w' ⟨rfl, rfl⟩))
  have hb' := hb.out
  obtain ⟨f, hf⟩ : ∃ f, W1.heap.size = f := ⟨_, rfl⟩
  obtain ⟨W2, hW2⟩ : ∃ W2 : World, W2 = (((W1.alloc (.cells #[.int .u32 tsn, .int .u16 (IntKind.u16.wrap st), .int .u16 0, .bool false, .bool false, .bool true, .slice none 0 0] 93)).alloc (.cells #[.slice none 0 0] 80)).alloc (.cells #[.slice (some ad) l.length c] 75)).alloc (.cells #[.int .i64 (z : Int)] 3) := ⟨_, rfl⟩
  rw [← hW2, hf]
  have z2 : W2.heap.size = f + 4 := by rw [hW2]; simp; omega
  have m0 : ∀ j, W2.cell? ⟨f, j, none⟩ = #[Value.int .u32 tsn, .int .u16 (IntKind.u16.wrap st), .int .u16 0, .bool false, .bool false, .bool true, .slice none 0 0][j]? := by
    intro j
    rw [hW2, cell_old1 _ _ _ (by simp; omega), cell_old1 _ _ _ (by simp; omega), cell_old1 _ _ _ (by simp; omega), cell_new1 _ _ _ _ hf.symm]
  have m1 : W2.cell? ⟨f + 1, 0, none⟩ = some (.slice none 0 0) := by
    rw [hW2, cell_old1 _ _ _ (by simp; omega), cell_old1 _ _ _ (by simp; omega), cell_new1 _ _ _ _ (by simp; omega)]; rfl
  have m1f : W2.frozen? ⟨f + 1, 0, none⟩ = false := by
    rw [hW2, froz_old1 _ _ _ (by simp; omega), froz_old1 _ _ _ (by simp; omega), froz_new1 _ _ _ _ (by simp; omega)]
  have m2 : W2.cell? ⟨f + 2, 0, none⟩ = some (.slice (some ad) l.length c) := by
    rw [hW2, cell_old1 _ _ _ (by simp; omega), cell_new1 _ _ _ _ (by simp; omega)]; rfl
  have m3 : W2.cell? ⟨f + 3, 0, none⟩ = some (.int .i64 (z : Int)) := by
    rw [hW2, cell_new1 _ _ _ _ (by simp; omega)]; rfl
  have hB2 : Below W1.heap.size W1 W2 := by
    rw [hW2]
    exact ((((Below.refl _ W1).alloc (Nat.le_refl _) _).alloc (by simp) _).alloc (by simp; omega) _).alloc (by simp; omega) _
  have m4 : W2.cell? ⟨w.heap.size + 1, 0, none⟩ = some (.int .u32 tsn) := (hB2.cell (p := ⟨w.heap.size + 1, 0, none⟩) y1).trans k2
  have HBW : Hid (Below w.heap.size w W2) := hid (hB0.trans ((hb'.mono (by omega)).trans (hB2.mono (by omega))))
  clear hW2 hB2 k1 k2 k3 k4 k5 k6 hW hb hb' hB0 z0 y2 y3 hz1'
  have f77 : FW.fn 89 := trivial
  refine wpIn_rangeFunc_brk rfl (by decide) (gf := 89) (lb := #[.pointer (some ⟨f + 1 + 1, 0, none⟩), .pointer (some ⟨f + 1 + 1 + 1, 0, none⟩)]) rfl f77 (enters_of Try.func89 (by kernel_rfl) rfl)
    (chunk_stops 8 (by decide) (f + 2) (f + 3) (f + 1) W2.heap.size ad l.length c z (by omega) (by omega) (by omega) hc W2 (by omega) (by omega) (by omega) (by omega) (Nat.le_refl _) m2 m3) Keep.trans (It.keepK_b (Nat.le_refl _)) (Below.refl _ _) (fun _ => rfl)
    (fun pre W => (∃ v, W.cell? ⟨f + 1, 0, none⟩ = some v ∧ W.frozen? ⟨f + 1, 0, none⟩ = false ∧ Kd.R k93 93 W (f + 4) (fun _ => True) v (pcs st true l tsn seq z pre)) ∧ W2.grownBy W (some (f + 1)))
    (fun _ _ => False)
    (OwnFrom.and (Own.from (fun s A B row hs hg hr => by
      obtain ⟨v, h1, h2, h3⟩ := hs
      exact ⟨v, cell_kept h1 hg hr, (frozen_kept h1 hg hr).trans h2, R_other h3 hg hr⟩) _) (Left.ownFrom_grown _ _ _ (Nat.le_refl _)))
    (fun _ _ _ _ h _ _ => h)
    ⟨⟨_, m1, m1f, Kd.R_nil _ _ _ _ _⟩, ⟨rfl, rfl, rfl, Nat.le_refl _, fun _ _ _ => rfl⟩⟩ ?a1 ?asg ?body
    (fun W => (∃ v, W.cell? ⟨f + 1, 0, none⟩ = some v ∧ W.frozen? ⟨f + 1, 0, none⟩ = false ∧ Kd.R k93 93 W (f + 4) (fun _ => True) v (pcs st true l tsn seq z (List.range (parts l.length z)))) ∧ W2.grownBy W (some (f + 1))) ?hd (fun _ _ _ h => h.elim) ?hend
  case asg =>
    intro lp x W K hK
    gi_wp2
    exact hK
  case hd =>
    rintro ys W rfl h
    exact h
  case body =>
    rintro lp pre x W ⟨⟨v, h1, h2, h3⟩, h4⟩ hpre
    have z4 := h4.size
    have hBW : Below w.heap.size w W := HBW.out.trans (grown_below h4 (B := w.heap.size) (by omega) (by omega))
    have q0 : W.cell? ⟨w.heap.size + 1, 0, none⟩ = some (.int .u32 tsn) := h4.cell (a := ⟨w.heap.size + 1, 0, none⟩) m4 (by simp; omega)
    have p0 : W.cell? ⟨f, 0, none⟩ = some (.int .u32 tsn) := h4.cell (a := ⟨f, 0, none⟩) (m0 0) (by simp)
    have p1 : W.cell? ⟨f, 1, none⟩ = some (.int .u16 (IntKind.u16.wrap st)) := h4.cell (a := ⟨f, 1, none⟩) (m0 1) (by simp)
    have p2 : W.cell? ⟨f, 2, none⟩ = some (.int .u16 0) := h4.cell (a := ⟨f, 2, none⟩) (m0 2) (by simp)
    have p3 : W.cell? ⟨f, 3, none⟩ = some (.bool false) := h4.cell (a := ⟨f, 3, none⟩) (m0 3) (by simp)
    have p4 : W.cell? ⟨f, 4, none⟩ = some (.bool false) := h4.cell (a := ⟨f, 4, none⟩) (m0 4) (by simp)
    have p5 : W.cell? ⟨f, 5, none⟩ = some (.bool true) := h4.cell (a := ⟨f, 5, none⟩) (m0 5) (by simp)
    have p6 : W.cell? ⟨f, 6, none⟩ = some (.slice none 0 0) := h4.cell (a := ⟨f, 6, none⟩) (m0 6) (by simp)
    obtain ⟨_, inner, ho, hrp⟩ := h3
    rw [pcs_len] at ho
    obtain ⟨a2, c2, rfl, hc2⟩ := slice_of_row ho
    have HO := hid ho
    have HP := hid hrp
    have H4 := hid h4
    have HBX := hid hBW
    have hpl : pre.length < 400 := by have := parts_le l.length z (by omega); omega
    have b0 : w.heap.size + 1 < W.heap.size := by omega
    have b1 : f < W.heap.size := by omega
    have b2 : f + 1 < W.heap.size := by omega
    rw [part_eq]
    clear ho hrp h4 hBW m0 m1 m1f m2 m3 m4
    obtain ⟨T, hT⟩ : ∃ T, (l.drop (x * z)).take z = T := ⟨_, rfl⟩
    have hTl : T.length ≤ 64 := by rw [← hT]; simp; omega
    have HTC := hid (hT ▸ C_part HR.out (x * z) z : (Kd.int .u8).C w (some (ad.add (x * z))) T.length T)
    rw [hT]
    have HT := hid hT
    clear hT
    gi_wp2_with (first
      | (gi_at_call 18; go_loud (refine (CallsIn.inRound lp (callsIn_wide.2 (step_calls _ _ _))).mono ?_); rintro e w_ ⟨rfl, rfl⟩)
      | (gi_at_call 76; refine (CallsIn.inRound lp (callsIn_wide.2 (slices_Clone_byte_byte.calls _ _ T T _ (Kd.C_below HTC.out (HBX.out.alloc HBX.out.size _)) (Nat.le_refl _) (by unfold slices_Clone_byte_byte.f; rw [if_pos (by omega)])))).mono ?_; rintro e W5 ⟨v6, rfl, R6, hb6⟩; obtain ⟨A6, c6, rfl, hc6, _⟩ := Kd.R_reads R6; have g5 : W.heap.size < (W.alloc (.cells #[.int .u32 tsn, .int .u16 (IntKind.u16.wrap st), .int .u16 0, .bool false, .bool false, .bool true, .slice none 0 0] 93)).heap.size := (by rw [Base_size]; omega); have g6 := hb6.size; have g7 : f + 1 < (W.alloc (.cells #[.int .u32 tsn, .int .u16 (IntKind.u16.wrap st), .int .u16 0, .bool false, .bool false, .bool true, .slice none 0 0] 93)).heap.size := (by rw [Base_size]; omega); have u0 : W5.cell? ⟨W.heap.size, 0, none⟩ = some (.int .u32 tsn) := (hb6.cell (p := ⟨W.heap.size, 0, none⟩) g5).trans (by rw [cell_new1 _ _ _ _ rfl]; rfl); have u1 : W5.cell? ⟨W.heap.size, 1, none⟩ = some (.int .u16 (IntKind.u16.wrap st)) := (hb6.cell (p := ⟨W.heap.size, 1, none⟩) g5).trans (by rw [cell_new1 _ _ _ _ rfl]; rfl); have u2 : W5.cell? ⟨W.heap.size, 2, none⟩ = some (.int .u16 0) := (hb6.cell (p := ⟨W.heap.size, 2, none⟩) g5).trans (by rw [cell_new1 _ _ _ _ rfl]; rfl); have u3 : W5.cell? ⟨W.heap.size, 3, none⟩ = some (.bool false) := (hb6.cell (p := ⟨W.heap.size, 3, none⟩) g5).trans (by rw [cell_new1 _ _ _ _ rfl]; rfl); have u4 : W5.cell? ⟨W.heap.size, 4, none⟩ = some (.bool false) := (hb6.cell (p := ⟨W.heap.size, 4, none⟩) g5).trans (by rw [cell_new1 _ _ _ _ rfl]; rfl); have u5 : W5.cell? ⟨W.heap.size, 5, none⟩ = some (.bool true) := (hb6.cell (p := ⟨W.heap.size, 5, none⟩) g5).trans (by rw [cell_new1 _ _ _ _ rfl]; rfl); have u6 : W5.cell? ⟨W.heap.size, 6, none⟩ = some (.slice none 0 0) := (hb6.cell (p := ⟨W.heap.size, 6, none⟩) g5).trans (by rw [cell_new1 _ _ _ _ rfl]; rfl); have uo := (hb6.cell (p := ⟨f + 1, 0, none⟩) g7).trans ((cell_old1 W _ _ b2 _).trans h1); have uf := (hb6.frozen (p := ⟨f + 1, 0, none⟩) g7).trans ((froz_old1 W _ _ b2 _).trans h2); have fz0 : W5.frozen? ⟨W.heap.size, 0, none⟩ = false := (hb6.frozen (p := ⟨W.heap.size, 0, none⟩) g5).trans (froz_new1 _ _ _ _ rfl _); have fz6 : W5.frozen? ⟨W.heap.size, 6, none⟩ = false := (hb6.frozen (p := ⟨W.heap.size, 6, none⟩) g5).trans (froz_new1 _ _ _ _ rfl _); have HB6 := hid hb6; have HR6 := hid R6; clear hb6 R6 h1 h2)
      | (gi_at_builtin; refine wpListIn_append_own_at _ rfl _ _ 80 rfl (f + 4) 93 i0 (.agg #[(.int .u32 0), (.int .u16 0), (.int .u16 0), (.bool false), (.bool false), (.bool false), (.slice none 0 0)]) 7 40 Try.underlying80 hi hi0 hi1 hi2 rfl (by decide) _ pre.length inner rfl ?ho ⟨W5.heap.size, 0, none⟩ 1 1 [.int .u32 ((tsn + (pre.length : Int)) % 4294967296), .int .u16 (IntKind.u16.wrap st), .int .u16 0, .bool false, .bool false, .bool true, .slice A6 T.length c6] rfl rfl ?news ?one ?c3 ?c4 ?c5 ?_))
    case ho => exact ownsRow_later HO.out (B6 HB6.out)
    case news => exact RowV.news (o := 0) (fun j hj => by rw [cell_new1 _ _ _ _ (by simp), Nat.zero_add]; simp)
    case one => simp [Value.oneCell']
    case c3 => unfold maxLen; omega
    case c4 => omega
    case c5 => simp; omega
    have hnb : ∀ b, (Value.slice a2 pre.length c2).ownBlock = some b → f + 4 ≤ b ∧ b < W.heap.size := HO.out.lt
    intro v' w' hown hgr hat
    obtain ⟨a3, c3, rfl, _⟩ := slice_of_row hown
    have s5 : W.heap.size + 1 ≤ W5.heap.size := by have := HB6.out.size; simpa using this
    have ux : w'.cell? ⟨f + 1, 0, none⟩ = some (.slice a2 pre.length c2) := hgr.cell (a := ⟨f + 1, 0, none⟩) (by rw [cell_old1 _ _ _ (by simp; omega)]; rw [World.cell?_setCell_far _ _ _ _ (show W.heap.size ≠ f + 1 by omega), World.cell?_setCell_far _ _ _ _ (show W.heap.size ≠ f + 1 by omega)]; exact uo) (by intro e; have := (hnb _ e.symm).1; exact absurd this (by show ¬ f + 4 ≤ f + 1; omega))
    have uy : w'.frozen? ⟨f + 1, 0, none⟩ = false := by
      rw [World.frozen?_of_block (hgr.block (f + 1) (by simp; omega) (by intro e; have := (hnb _ e.symm).1; omega)), froz_old1 _ _ _ (by simp; omega), World.frozen?_setCell, World.frozen?_setCell]; exact uf
    have hB6 := B6 (u6 := .slice A6 T.length c6) (u0 := .int .u32 ((tsn + (pre.length : Int)) % 4294967296)) (cs := #[.int .u32 ((tsn + (pre.length : Int)) % 4294967296), .int .u16 (IntKind.u16.wrap st), .int .u16 0, .bool false, .bool false, .bool true, .slice A6 T.length c6]) (t := 93) HB6.out
    have hRv : (Kd.int .u8).R 5 (((W5.setCell ⟨W.heap.size, 0, none⟩ (.int .u32 ((tsn + (pre.length : Int)) % 4294967296))).setCell ⟨W.heap.size, 6, none⟩ (.slice A6 T.length c6)).alloc (.cells #[.int .u32 ((tsn + (pre.length : Int)) % 4294967296), .int .u16 (IntKind.u16.wrap st), .int .u16 0, .bool false, .bool false, .bool true, .slice A6 T.length c6] 93)) (f + 4) (fun k => some k ≠ (Value.slice a2 pre.length c2).ownBlock) (.slice A6 T.length c6) T := by
      have h := Kd.R_bound HR6.out
      rw [Base_size] at h
      refine Kd.R_lower (Kd.R_alloc (Kd.R_mono (Kd.R_step h fun k hk _ => ?_) fun k hk => ?_) _) (show f + 4 ≤ W.heap.size + 1 by omega)
      · have hk1 : W.heap.size + 1 ≤ k := hk.2.1
        rw [Below.heap_setCell _ _ _ _ (show k ≠ W.heap.size by omega), Below.heap_setCell _ _ _ _ (show k ≠ W.heap.size by omega)]
      · intro e
        have := (hnb k e.symm).2
        have hk1 : W.heap.size + 1 ≤ k := hk.2.1
        omega
    have hfin : Kd.R k93 93 w' (f + 4) (fun _ => True) (.slice a3 (pre.length + 1) c3) (pcs st true l tsn seq z pre ++ [piece st true l tsn seq z pre.length x]) := by
      refine R_push (v6 := .slice A6 T.length c6) (HP.out.imp_ (fun _ _ hp => Kd.M_below hp hB6)) ?_ ?_ hgr (hat.imp id fun h => h.trans (by simp))
      · show (Kd.int .u8).R 5 _ (f + 4) _ _ ((l.drop (x * z)).take z)
        rw [HT.out]
        exact hRv
      · rw [pcs_len]
        have e1 : (piece st true l tsn seq z pre.length x).f0 = (tsn + (pre.length : Int)) % 4294967296 := by simp [piece]
        rw [e1]
        exact hown
    rw [← pcs_snoc] at hfin
    have hk1 : Keep (f + 1) W2.heap.size W w' := (Keep.of_below (hB6.mono (by omega))).trans ⟨hgr.size, fun b hb hne => hgr.block b (by simp; omega) (fun e => by have := (hnb b e.symm).1; omega)⟩
    have hk2 : KeepsOthers W w' := (keeps_below hB6).trans (KeepsOthers.of_grownBy hgr (fun j o e h => own_cells (ownsRow_later HO.out hB6) j o e h))
    have hgw := grown_chain H4.out hB6 hgr (fun k e => by have := (hnb k e).1; omega) (.slice a3 (pre.length + 1) c3)
    have HF := hid (And.intro hfin (And.intro hk1 (And.intro hk2 hgw)))
    clear hfin hk1 hk2 hgw hRv hB6 hown hgr hat
    gi_wp2
    obtain ⟨e1, e2, e3, e4⟩ := HF.out
    have e5 : W2.heap.size ≤ w'.heap.size := by have := e2.size; omega
    exact ⟨e3.trans (KeepsOthers.setCell _ _ _), e2.trans (Keep.of_grown (grownBy_setCell' _ _ _) e5), ⟨_, World.cell?_setCell_same' _ _ _ (by rw [ux]; rfl), by rw [World.frozen?_setCell]; exact uy, R_setlow e1 _ (by show f + 1 < f + 4; omega) _⟩, e4⟩
  case hend =>
    rintro D W hD ⟨⟨v, h1, h2, h3⟩, h4⟩ hK
    have hN : 0 < parts l.length z := (parts_lt (by omega)).2 (by omega)
    obtain ⟨M, hM⟩ : ∃ M, parts l.length z = M + 1 := ⟨parts l.length z - 1, by omega⟩
    have hMl : M < 400 := by have := parts_le l.length z (by omega); omega
    rw [hM] at h3
    obtain ⟨ps, hps⟩ : ∃ ps, pcs st true l tsn seq z (List.range (M + 1)) = ps := ⟨_, rfl⟩
    have hpl : ps.length = M + 1 := by rw [← hps, pcs_len, List.length_range]
    rw [hps] at h3
    obtain ⟨g, c3, rfl⟩ : ∃ g c3, v = .slice (some ⟨g, 0, none⟩) (M + 1) c3 := by
      obtain ⟨_, inner, ho, _⟩ := h3
      rcases ho.2 with ⟨_, h⟩ | ⟨g, cap, cur, rfl, _⟩
      · omega
      · exact ⟨g, cap, by rw [hpl]⟩
    obtain ⟨-, hg1, hg2, hgf⟩ := R_cells7 h3
    obtain ⟨_, -, hcA⟩ := R_elem h3 0 (by omega)
    obtain ⟨_, -, hcB⟩ := R_elem h3 M (by omega)
    obtain ⟨bA, cA⟩ : ∃ b : Bool, W.cell? ⟨g, 3, none⟩ = some (.bool b) := ⟨_, hcA 3 _ rfl⟩
    obtain ⟨bB, cB⟩ : ∃ b : Bool, W.cell? ⟨g, M * 7 + 4, none⟩ = some (.bool b) := ⟨_, hcB 4 _ rfl⟩
    have fA := hgf 3
    have fB := hgf (M * 7 + 4)
    have H3 := hid h3
    have H4 := hid h4
    have HPS := hid hps
    have HPL := hid hpl
    have hgf1 : g ≠ f + 1 := by omega
    have HK := hid hK
    have HM := hid hM
    clear h3 h4 hps hcA hcB hgf m0 m1 m1f m2 m3 m4 hK hM hN
    gi_wp2
    refine wpIn_wide.2 ?_
    go_region
    have hR1 := R_mark H3.out 0 (by rw [HPL.out]; omega) { (ps.getD 0 z93) with f3 := true } 3 true (fun v6 => by simp [HPL.out]) (by simp [HPL.out]) (by decide)
    rw [show 0 * 7 + 3 = 3 by omega] at hR1
    have hR2 := R_mark hR1.1 M (by rw [List.length_set, HPL.out]; omega) { ((ps.set 0 { (ps.getD 0 z93) with f3 := true }).getD M z93) with f4 := true } 4 true (fun v6 => by simp [HPL.out]) (by simp [HPL.out]) (by decide)
    have hR3 := Kd.R_drew hR2.1
    have hnd : D ≠ g := by
      intro e
      subst e
      obtain ⟨_, _, _, q, _, cells, hh⟩ := (Kd.R_bound H3.out).1 D (by simp [Value.ownBlock])
      rw [hh] at HK
      have := HK.out
      cases this
    obtain ⟨W3, hW3⟩ : ∃ W3, W3 = ((W.setCell ⟨g, 3, none⟩ (.bool true)).setCell ⟨g, M * 7 + 4, none⟩ (.bool true)).drew := ⟨_, rfl⟩
    rw [← hW3] at hR3 ⊢
    have c1 : W3.cell? ⟨f + 1, 0, none⟩ = some (.slice (some ⟨g, 0, none⟩) (M + 1) c3) := by
      rw [hW3, World.cell?_drew, World.cell?_setCell_far _ _ _ _ hgf1, World.cell?_setCell_far _ _ _ _ hgf1]; exact h1
    have hD3 : W3.heap[D]? = some (.deferred (some [])) := by
      rw [hW3]
      show ((W.setCell ⟨g, 3, none⟩ (.bool true)).setCell ⟨g, M * 7 + 4, none⟩ (.bool true)).heap[D]? = _
      rw [Below.heap_setCell _ _ _ _ hnd, Below.heap_setCell _ _ _ _ hnd]; exact HK.out
    have hB3 : Below w.heap.size w W3 := by
      rw [hW3]
      have b1 : Below w.heap.size w W := HBW.out.trans (grown_below H4.out (B := w.heap.size) (by omega) (by omega))
      have b2 := b1.grown hR1.2 b1.size (fun k e => by cases e; omega)
      have b3 := b2.grown hR2.2 b2.size (fun k e => by cases e; omega)
      exact b3.drew
    have hend := hid (hB3.trans (belowK_b (w := w) (Nat.le_refl _) W3 D _ (.deferred none) (by omega) hD3 rfl rfl))
    have HE := hid hR3
    have HD3 := hid hD3
    clear hR1 hR2 hR3 hW3 hD3 hB3 cA cB fA fB h1 h2 hgf1 hnd H3 H4 HK
    gi_wp2
    refine ⟨by simp, .inl ⟨_, _, rfl, run_takeDeferred HD3.out, ?_⟩⟩
    refine ⟨_, results_tmp2 rfl _ _ _, _, rfl, ?_, hend.out⟩
    have hmk : marked (pcs st true l tsn seq z (List.range (parts l.length z))) = (ps.set 0 { (ps.getD 0 z93) with f3 := true }).set M { ((ps.set 0 { (ps.getD 0 z93) with f3 := true }).getD M z93) with f4 := true } := by
      rw [HM.out, HPS.out]
      unfold marked
      dsimp only
      rw [List.length_set, HPL.out, Nat.add_sub_cancel]
    rw [hmk]
    exact Kd.R_lower (R_other HE.out (grownBy_putObj' W3 D (.deferred none)) (fun k e => by cases e; exact ⟨_, HD3.out, rfl⟩)) (show w.heap.size ≤ f + 4 by omega)
set_option maxRecDepth 100000 in
set_option maxHeartbeats 4000000 in
open Go.Proofs.Ytnlhlffciigcnaa.Left Go.Proofs.Ytnlhlffciigcnaa.It Go.Proofs.Ytnlhlffciigcnaa.Base in
theorem cut_go_false (st : Int) (A : Option Addr) (c : Nat) (l : List Int) (tsn seq : Int) (z : Nat) (w : World) (hr : (Kd.int .u8).C w A l.length l) (hc : l.length ≤ c) (hg : goodB st l.length = true) (hz1 : 1 ≤ z) (hz2 : z ≤ 64) (hs : withinB (z : Int) 1 64 = true) :
    CallsIn FW 9 Try.prog 42 #[.agg #[.int .i64 st, .bool false, .slice A l.length c], .agg #[.int .u32 tsn, .int .u16 seq, .int .i64 (z : Int)]] w fun e w' => ∃ v : Value, e = .returned (.tuple #[v, .nilIface]) ∧ Kd.R k93 93 w' w.heap.size (fun _ => True) v (marked (pcs st false l tsn seq z (List.range (parts l.length z)))) ∧ Below w.heap.size w w' := by
  obtain ⟨i0, hi, hi0, hi1, hi2⟩ := info_parts info93
  have f42 : FW.fn 44 := trivial
  have f67 : FW.fn 74 := trivial
  have f68 : FW.fn 75 := trivial
  have f16 : FW.fn 18 := trivial
  have f69 : FW.fn 76 := trivial
  obtain ⟨hl1, hl2⟩ := good_len hg
  obtain ⟨ad, rfl, _⟩ := Kd.at_int hr 0 (by omega) (by omega)
  have HR := hid hr
  clear hr
  refine callsIn_of_wp_marks Try.func42 rfl trivial ?_ rfl
  simp only [Try.ntmps42, List.size_toArray, List.length_cons, List.length_nil, Nat.reduceAdd, Nat.reduceSub, Array.replicate_succ, Array.replicate_zero, List.push_toArray, List.append_toArray, List.nil_append, List.cons_append]
  obtain ⟨W0, hW0⟩ : ∃ W0 : World, W0 = (w.alloc (.cells #[.int .i64 st, .bool false, .slice (some ad) l.length c] 77)).alloc (.cells #[.int .u32 tsn, .int .u16 seq, .int .i64 (z : Int)] 79) := ⟨_, rfl⟩
  have z0 : W0.heap.size = w.heap.size + 2 := by rw [hW0]; simp
  have hB0 : Below w.heap.size w W0 := by rw [hW0]; exact (((Below.refl _ w).alloc (Nat.le_refl _) _).alloc (by simp) _)
  have k1 : W0.cell? ⟨w.heap.size + 1, 2, none⟩ = some (.int .i64 (z : Int)) := by rw [hW0, cell_new1 _ _ _ _ (by simp)]; rfl
  have k2 : W0.cell? ⟨w.heap.size + 1, 0, none⟩ = some (.int .u32 tsn) := by rw [hW0, cell_new1 _ _ _ _ (by simp)]; rfl
  have k3 : W0.cell? ⟨w.heap.size + 1, 1, none⟩ = some (.int .u16 seq) := by rw [hW0, cell_new1 _ _ _ _ (by simp)]; rfl
  have k4 : W0.cell? ⟨w.heap.size, 0, none⟩ = some (.int .i64 st) := by rw [hW0, cell_old1 _ _ _ (by simp), cell_new1 _ _ _ _ (by simp)]; rfl
  have k5 : W0.cell? ⟨w.heap.size, 1, none⟩ = some (.bool false) := by rw [hW0, cell_old1 _ _ _ (by simp), cell_new1 _ _ _ _ (by simp)]; rfl
  have k6 : W0.cell? ⟨w.heap.size, 2, none⟩ = some (.slice (some ad) l.length c) := by rw [hW0, cell_old1 _ _ _ (by simp), cell_new1 _ _ _ _ (by simp)]; rfl
  have y2 : w.heap.size < W0.heap.size := by omega
  have y3 : w.heap.size + 1 < W0.heap.size := by omega
  have hW := hid hW0
  clear hW0
  gi_wp2_with (first
    | (gi_at_call 44; go_loud (rw [← hW.out]; refine (callsIn_wide.2 (good_calls _ _ _ _ _ _)).mono ?_; rintro e W1 ⟨rfl, hb⟩; have hz1' := hb.size; replace k1 := (hb.cell (p := ⟨w.heap.size + 1, 2, none⟩) y3).trans k1; replace k2 := (hb.cell (p := ⟨w.heap.size + 1, 0, none⟩) y3).trans k2; replace k3 := (hb.cell (p := ⟨w.heap.size + 1, 1, none⟩) y3).trans k3; replace k4 := (hb.cell (p := ⟨w.heap.size, 0, none⟩) y2).trans k4; replace k5 := (hb.cell (p := ⟨w.heap.size, 1, none⟩) y2).trans k5; replace k6 := (hb.cell (p := ⟨w.heap.size, 2, none⟩) y2).trans k6; replace hb := hid hb; have y0 : w.heap.size < W1.heap.size := (by omega); have y1 : w.heap.size + 1 < W1.heap.size := (by omega)))
    | (gi_at_call 74; refine (callsIn_wide.2 (within_calls _ _ _ _)).mono ?_; rintro e w' ⟨rfl, rfl⟩)
    | (gi_at_call 75; refine (callsIn_wide.2 (chunk_any _ _ _ _ (by omega) _)).mono ?_; rintro e w' ⟨rfl, rfl⟩))
  have hb' := hb.out
  obtain ⟨f, hf⟩ : ∃ f, W1.heap.size = f := ⟨_, rfl⟩
  obtain ⟨W2, hW2⟩ : ∃ W2 : World, W2 = (((W1.alloc (.cells #[.int .u32 tsn, .int .u16 (IntKind.u16.wrap st), .int .u16 seq, .bool false, .bool false, .bool false, .slice none 0 0] 93)).alloc (.cells #[.slice none 0 0] 80)).alloc (.cells #[.slice (some ad) l.length c] 75)).alloc (.cells #[.int .i64 (z : Int)] 3) := ⟨_, rfl⟩
  rw [← hW2, hf]
  have z2 : W2.heap.size = f + 4 := by rw [hW2]; simp; omega
  have m0 : ∀ j, W2.cell? ⟨f, j, none⟩ = #[Value.int .u32 tsn, .int .u16 (IntKind.u16.wrap st), .int .u16 seq, .bool false, .bool false, .bool false, .slice none 0 0][j]? := by
    intro j
    rw [hW2, cell_old1 _ _ _ (by simp; omega), cell_old1 _ _ _ (by simp; omega), cell_old1 _ _ _ (by simp; omega), cell_new1 _ _ _ _ hf.symm]
  have m1 : W2.cell? ⟨f + 1, 0, none⟩ = some (.slice none 0 0) := by
    rw [hW2, cell_old1 _ _ _ (by simp; omega), cell_old1 _ _ _ (by simp; omega), cell_new1 _ _ _ _ (by simp; omega)]; rfl
  have m1f : W2.frozen? ⟨f + 1, 0, none⟩ = false := by
    rw [hW2, froz_old1 _ _ _ (by simp; omega), froz_old1 _ _ _ (by simp; omega), froz_new1 _ _ _ _ (by simp; omega)]
  have m2 : W2.cell? ⟨f + 2, 0, none⟩ = some (.slice (some ad) l.length c) := by
    rw [hW2, cell_old1 _ _ _ (by simp; omega), cell_new1 _ _ _ _ (by simp; omega)]; rfl
  have m3 : W2.cell? ⟨f + 3, 0, none⟩ = some (.int .i64 (z : Int)) := by
    rw [hW2, cell_new1 _ _ _ _ (by simp; omega)]; rfl
  have hB2 : Below W1.heap.size W1 W2 := by
    rw [hW2]
    exact ((((Below.refl _ W1).alloc (Nat.le_refl _) _).alloc (by simp) _).alloc (by simp; omega) _).alloc (by simp; omega) _
  have m4 : W2.cell? ⟨w.heap.size + 1, 0, none⟩ = some (.int .u32 tsn) := (hB2.cell (p := ⟨w.heap.size + 1, 0, none⟩) y1).trans k2
  have HBW : Hid (Below w.heap.size w W2) := hid (hB0.trans ((hb'.mono (by omega)).trans (hB2.mono (by omega))))
  clear hW2 hB2 k1 k2 k3 k4 k5 k6 hW hb hb' hB0 z0 y2 y3 hz1'
  have f77 : FW.fn 89 := trivial
  refine wpIn_rangeFunc_brk rfl (by decide) (gf := 89) (lb := #[.pointer (some ⟨f + 1 + 1, 0, none⟩), .pointer (some ⟨f + 1 + 1 + 1, 0, none⟩)]) rfl f77 (enters_of Try.func89 (by kernel_rfl) rfl)
    (chunk_stops 8 (by decide) (f + 2) (f + 3) (f + 1) W2.heap.size ad l.length c z (by omega) (by omega) (by omega) hc W2 (by omega) (by omega) (by omega) (by omega) (Nat.le_refl _) m2 m3) Keep.trans (It.keepK_b (Nat.le_refl _)) (Below.refl _ _) (fun _ => rfl)
    (fun pre W => (∃ v, W.cell? ⟨f + 1, 0, none⟩ = some v ∧ W.frozen? ⟨f + 1, 0, none⟩ = false ∧ Kd.R k93 93 W (f + 4) (fun _ => True) v (pcs st false l tsn seq z pre)) ∧ W2.grownBy W (some (f + 1)))
    (fun _ _ => False)
    (OwnFrom.and (Own.from (fun s A B row hs hg hr => by
      obtain ⟨v, h1, h2, h3⟩ := hs
      exact ⟨v, cell_kept h1 hg hr, (frozen_kept h1 hg hr).trans h2, R_other h3 hg hr⟩) _) (Left.ownFrom_grown _ _ _ (Nat.le_refl _)))
    (fun _ _ _ _ h _ _ => h)
    ⟨⟨_, m1, m1f, Kd.R_nil _ _ _ _ _⟩, ⟨rfl, rfl, rfl, Nat.le_refl _, fun _ _ _ => rfl⟩⟩ ?a1 ?asg ?body
    (fun W => (∃ v, W.cell? ⟨f + 1, 0, none⟩ = some v ∧ W.frozen? ⟨f + 1, 0, none⟩ = false ∧ Kd.R k93 93 W (f + 4) (fun _ => True) v (pcs st false l tsn seq z (List.range (parts l.length z)))) ∧ W2.grownBy W (some (f + 1))) ?hd (fun _ _ _ h => h.elim) ?hend
  case asg =>
    intro lp x W K hK
    gi_wp2
    exact hK
  case hd =>
    rintro ys W rfl h
    exact h
  case body =>
    rintro lp pre x W ⟨⟨v, h1, h2, h3⟩, h4⟩ hpre
    have z4 := h4.size
    have hBW : Below w.heap.size w W := HBW.out.trans (grown_below h4 (B := w.heap.size) (by omega) (by omega))
    have q0 : W.cell? ⟨w.heap.size + 1, 0, none⟩ = some (.int .u32 tsn) := h4.cell (a := ⟨w.heap.size + 1, 0, none⟩) m4 (by simp; omega)
    have p0 : W.cell? ⟨f, 0, none⟩ = some (.int .u32 tsn) := h4.cell (a := ⟨f, 0, none⟩) (m0 0) (by simp)
    have p1 : W.cell? ⟨f, 1, none⟩ = some (.int .u16 (IntKind.u16.wrap st)) := h4.cell (a := ⟨f, 1, none⟩) (m0 1) (by simp)
    have p2 : W.cell? ⟨f, 2, none⟩ = some (.int .u16 seq) := h4.cell (a := ⟨f, 2, none⟩) (m0 2) (by simp)
    have p3 : W.cell? ⟨f, 3, none⟩ = some (.bool false) := h4.cell (a := ⟨f, 3, none⟩) (m0 3) (by simp)
    have p4 : W.cell? ⟨f, 4, none⟩ = some (.bool false) := h4.cell (a := ⟨f, 4, none⟩) (m0 4) (by simp)
    have p5 : W.cell? ⟨f, 5, none⟩ = some (.bool false) := h4.cell (a := ⟨f, 5, none⟩) (m0 5) (by simp)
    have p6 : W.cell? ⟨f, 6, none⟩ = some (.slice none 0 0) := h4.cell (a := ⟨f, 6, none⟩) (m0 6) (by simp)
    obtain ⟨_, inner, ho, hrp⟩ := h3
    rw [pcs_len] at ho
    obtain ⟨a2, c2, rfl, hc2⟩ := slice_of_row ho
    have HO := hid ho
    have HP := hid hrp
    have H4 := hid h4
    have HBX := hid hBW
    have hpl : pre.length < 400 := by have := parts_le l.length z (by omega); omega
    have b0 : w.heap.size + 1 < W.heap.size := by omega
    have b1 : f < W.heap.size := by omega
    have b2 : f + 1 < W.heap.size := by omega
    rw [part_eq]
    clear ho hrp h4 hBW m0 m1 m1f m2 m3 m4
    obtain ⟨T, hT⟩ : ∃ T, (l.drop (x * z)).take z = T := ⟨_, rfl⟩
    have hTl : T.length ≤ 64 := by rw [← hT]; simp; omega
    have HTC := hid (hT ▸ C_part HR.out (x * z) z : (Kd.int .u8).C w (some (ad.add (x * z))) T.length T)
    rw [hT]
    have HT := hid hT
    clear hT
    gi_wp2_with (first
      | (gi_at_call 18; go_loud (refine (CallsIn.inRound lp (callsIn_wide.2 (step_calls _ _ _))).mono ?_); rintro e w_ ⟨rfl, rfl⟩)
      | (gi_at_call 76; refine (CallsIn.inRound lp (callsIn_wide.2 (slices_Clone_byte_byte.calls _ _ T T _ (Kd.C_below HTC.out (HBX.out.alloc HBX.out.size _)) (Nat.le_refl _) (by unfold slices_Clone_byte_byte.f; rw [if_pos (by omega)])))).mono ?_; rintro e W5 ⟨v6, rfl, R6, hb6⟩; obtain ⟨A6, c6, rfl, hc6, _⟩ := Kd.R_reads R6; have g5 : W.heap.size < (W.alloc (.cells #[.int .u32 tsn, .int .u16 (IntKind.u16.wrap st), .int .u16 seq, .bool false, .bool false, .bool false, .slice none 0 0] 93)).heap.size := (by rw [Base_size]; omega); have g6 := hb6.size; have g7 : f + 1 < (W.alloc (.cells #[.int .u32 tsn, .int .u16 (IntKind.u16.wrap st), .int .u16 seq, .bool false, .bool false, .bool false, .slice none 0 0] 93)).heap.size := (by rw [Base_size]; omega); have u0 : W5.cell? ⟨W.heap.size, 0, none⟩ = some (.int .u32 tsn) := (hb6.cell (p := ⟨W.heap.size, 0, none⟩) g5).trans (by rw [cell_new1 _ _ _ _ rfl]; rfl); have u1 : W5.cell? ⟨W.heap.size, 1, none⟩ = some (.int .u16 (IntKind.u16.wrap st)) := (hb6.cell (p := ⟨W.heap.size, 1, none⟩) g5).trans (by rw [cell_new1 _ _ _ _ rfl]; rfl); have u2 : W5.cell? ⟨W.heap.size, 2, none⟩ = some (.int .u16 seq) := (hb6.cell (p := ⟨W.heap.size, 2, none⟩) g5).trans (by rw [cell_new1 _ _ _ _ rfl]; rfl); have u3 : W5.cell? ⟨W.heap.size, 3, none⟩ = some (.bool false) := (hb6.cell (p := ⟨W.heap.size, 3, none⟩) g5).trans (by rw [cell_new1 _ _ _ _ rfl]; rfl); have u4 : W5.cell? ⟨W.heap.size, 4, none⟩ = some (.bool false) := (hb6.cell (p := ⟨W.heap.size, 4, none⟩) g5).trans (by rw [cell_new1 _ _ _ _ rfl]; rfl); have u5 : W5.cell? ⟨W.heap.size, 5, none⟩ = some (.bool false) := (hb6.cell (p := ⟨W.heap.size, 5, none⟩) g5).trans (by rw [cell_new1 _ _ _ _ rfl]; rfl); have u6 : W5.cell? ⟨W.heap.size, 6, none⟩ = some (.slice none 0 0) := (hb6.cell (p := ⟨W.heap.size, 6, none⟩) g5).trans (by rw [cell_new1 _ _ _ _ rfl]; rfl); have uo := (hb6.cell (p := ⟨f + 1, 0, none⟩) g7).trans ((cell_old1 W _ _ b2 _).trans h1); have uf := (hb6.frozen (p := ⟨f + 1, 0, none⟩) g7).trans ((froz_old1 W _ _ b2 _).trans h2); have fz0 : W5.frozen? ⟨W.heap.size, 0, none⟩ = false := (hb6.frozen (p := ⟨W.heap.size, 0, none⟩) g5).trans (froz_new1 _ _ _ _ rfl _); have fz6 : W5.frozen? ⟨W.heap.size, 6, none⟩ = false := (hb6.frozen (p := ⟨W.heap.size, 6, none⟩) g5).trans (froz_new1 _ _ _ _ rfl _); have HB6 := hid hb6; have HR6 := hid R6; clear hb6 R6 h1 h2)
      | (gi_at_builtin; refine wpListIn_append_own_at _ rfl _ _ 80 rfl (f + 4) 93 i0 (.agg #[(.int .u32 0), (.int .u16 0), (.int .u16 0), (.bool false), (.bool false), (.bool false), (.slice none 0 0)]) 7 40 Try.underlying80 hi hi0 hi1 hi2 rfl (by decide) _ pre.length inner rfl ?ho ⟨W5.heap.size, 0, none⟩ 1 1 [.int .u32 ((tsn + (pre.length : Int)) % 4294967296), .int .u16 (IntKind.u16.wrap st), .int .u16 seq, .bool false, .bool false, .bool false, .slice A6 T.length c6] rfl rfl ?news ?one ?c3 ?c4 ?c5 ?_))
    case ho => exact ownsRow_later HO.out (B6 HB6.out)
    case news => exact RowV.news (o := 0) (fun j hj => by rw [cell_new1 _ _ _ _ (by simp), Nat.zero_add]; simp)
    case one => simp [Value.oneCell']
    case c3 => unfold maxLen; omega
    case c4 => omega
    case c5 => simp; omega
    have hnb : ∀ b, (Value.slice a2 pre.length c2).ownBlock = some b → f + 4 ≤ b ∧ b < W.heap.size := HO.out.lt
    intro v' w' hown hgr hat
    obtain ⟨a3, c3, rfl, _⟩ := slice_of_row hown
    have s5 : W.heap.size + 1 ≤ W5.heap.size := by have := HB6.out.size; simpa using this
    have ux : w'.cell? ⟨f + 1, 0, none⟩ = some (.slice a2 pre.length c2) := hgr.cell (a := ⟨f + 1, 0, none⟩) (by rw [cell_old1 _ _ _ (by simp; omega)]; rw [World.cell?_setCell_far _ _ _ _ (show W.heap.size ≠ f + 1 by omega), World.cell?_setCell_far _ _ _ _ (show W.heap.size ≠ f + 1 by omega)]; exact uo) (by intro e; have := (hnb _ e.symm).1; exact absurd this (by show ¬ f + 4 ≤ f + 1; omega))
    have uy : w'.frozen? ⟨f + 1, 0, none⟩ = false := by
      rw [World.frozen?_of_block (hgr.block (f + 1) (by simp; omega) (by intro e; have := (hnb _ e.symm).1; omega)), froz_old1 _ _ _ (by simp; omega), World.frozen?_setCell, World.frozen?_setCell]; exact uf
    have hB6 := B6 (u6 := .slice A6 T.length c6) (u0 := .int .u32 ((tsn + (pre.length : Int)) % 4294967296)) (cs := #[.int .u32 ((tsn + (pre.length : Int)) % 4294967296), .int .u16 (IntKind.u16.wrap st), .int .u16 seq, .bool false, .bool false, .bool false, .slice A6 T.length c6]) (t := 93) HB6.out
    have hRv : (Kd.int .u8).R 5 (((W5.setCell ⟨W.heap.size, 0, none⟩ (.int .u32 ((tsn + (pre.length : Int)) % 4294967296))).setCell ⟨W.heap.size, 6, none⟩ (.slice A6 T.length c6)).alloc (.cells #[.int .u32 ((tsn + (pre.length : Int)) % 4294967296), .int .u16 (IntKind.u16.wrap st), .int .u16 seq, .bool false, .bool false, .bool false, .slice A6 T.length c6] 93)) (f + 4) (fun k => some k ≠ (Value.slice a2 pre.length c2).ownBlock) (.slice A6 T.length c6) T := by
      have h := Kd.R_bound HR6.out
      rw [Base_size] at h
      refine Kd.R_lower (Kd.R_alloc (Kd.R_mono (Kd.R_step h fun k hk _ => ?_) fun k hk => ?_) _) (show f + 4 ≤ W.heap.size + 1 by omega)
      · have hk1 : W.heap.size + 1 ≤ k := hk.2.1
        rw [Below.heap_setCell _ _ _ _ (show k ≠ W.heap.size by omega), Below.heap_setCell _ _ _ _ (show k ≠ W.heap.size by omega)]
      · intro e
        have := (hnb k e.symm).2
        have hk1 : W.heap.size + 1 ≤ k := hk.2.1
        omega
    have hfin : Kd.R k93 93 w' (f + 4) (fun _ => True) (.slice a3 (pre.length + 1) c3) (pcs st false l tsn seq z pre ++ [piece st false l tsn seq z pre.length x]) := by
      refine R_push (v6 := .slice A6 T.length c6) (HP.out.imp_ (fun _ _ hp => Kd.M_below hp hB6)) ?_ ?_ hgr (hat.imp id fun h => h.trans (by simp))
      · show (Kd.int .u8).R 5 _ (f + 4) _ _ ((l.drop (x * z)).take z)
        rw [HT.out]
        exact hRv
      · rw [pcs_len]
        have e1 : (piece st false l tsn seq z pre.length x).f0 = (tsn + (pre.length : Int)) % 4294967296 := by simp [piece]
        rw [e1]
        exact hown
    rw [← pcs_snoc] at hfin
    have hk1 : Keep (f + 1) W2.heap.size W w' := (Keep.of_below (hB6.mono (by omega))).trans ⟨hgr.size, fun b hb hne => hgr.block b (by simp; omega) (fun e => by have := (hnb b e.symm).1; omega)⟩
    have hk2 : KeepsOthers W w' := (keeps_below hB6).trans (KeepsOthers.of_grownBy hgr (fun j o e h => own_cells (ownsRow_later HO.out hB6) j o e h))
    have hgw := grown_chain H4.out hB6 hgr (fun k e => by have := (hnb k e).1; omega) (.slice a3 (pre.length + 1) c3)
    have HF := hid (And.intro hfin (And.intro hk1 (And.intro hk2 hgw)))
    clear hfin hk1 hk2 hgw hRv hB6 hown hgr hat
    gi_wp2
    obtain ⟨e1, e2, e3, e4⟩ := HF.out
    have e5 : W2.heap.size ≤ w'.heap.size := by have := e2.size; omega
    exact ⟨e3.trans (KeepsOthers.setCell _ _ _), e2.trans (Keep.of_grown (grownBy_setCell' _ _ _) e5), ⟨_, World.cell?_setCell_same' _ _ _ (by rw [ux]; rfl), by rw [World.frozen?_setCell]; exact uy, R_setlow e1 _ (by show f + 1 < f + 4; omega) _⟩, e4⟩
  case hend =>
    rintro D W hD ⟨⟨v, h1, h2, h3⟩, h4⟩ hK
    have hN : 0 < parts l.length z := (parts_lt (by omega)).2 (by omega)
    obtain ⟨M, hM⟩ : ∃ M, parts l.length z = M + 1 := ⟨parts l.length z - 1, by omega⟩
    have hMl : M < 400 := by have := parts_le l.length z (by omega); omega
    rw [hM] at h3
    obtain ⟨ps, hps⟩ : ∃ ps, pcs st false l tsn seq z (List.range (M + 1)) = ps := ⟨_, rfl⟩
    have hpl : ps.length = M + 1 := by rw [← hps, pcs_len, List.length_range]
    rw [hps] at h3
    obtain ⟨g, c3, rfl⟩ : ∃ g c3, v = .slice (some ⟨g, 0, none⟩) (M + 1) c3 := by
      obtain ⟨_, inner, ho, _⟩ := h3
      rcases ho.2 with ⟨_, h⟩ | ⟨g, cap, cur, rfl, _⟩
      · omega
      · exact ⟨g, cap, by rw [hpl]⟩
    obtain ⟨-, hg1, hg2, hgf⟩ := R_cells7 h3
    obtain ⟨_, -, hcA⟩ := R_elem h3 0 (by omega)
    obtain ⟨_, -, hcB⟩ := R_elem h3 M (by omega)
    obtain ⟨bA, cA⟩ : ∃ b : Bool, W.cell? ⟨g, 3, none⟩ = some (.bool b) := ⟨_, hcA 3 _ rfl⟩
    obtain ⟨bB, cB⟩ : ∃ b : Bool, W.cell? ⟨g, M * 7 + 4, none⟩ = some (.bool b) := ⟨_, hcB 4 _ rfl⟩
    have fA := hgf 3
    have fB := hgf (M * 7 + 4)
    have H3 := hid h3
    have H4 := hid h4
    have HPS := hid hps
    have HPL := hid hpl
    have hgf1 : g ≠ f + 1 := by omega
    have HK := hid hK
    have HM := hid hM
    clear h3 h4 hps hcA hcB hgf m0 m1 m1f m2 m3 m4 hK hM hN
    gi_wp2
    refine wpIn_wide.2 ?_
    go_region
    have hR1 := R_mark H3.out 0 (by rw [HPL.out]; omega) { (ps.getD 0 z93) with f3 := true } 3 true (fun v6 => by simp [HPL.out]) (by simp [HPL.out]) (by decide)
    rw [show 0 * 7 + 3 = 3 by omega] at hR1
    have hR2 := R_mark hR1.1 M (by rw [List.length_set, HPL.out]; omega) { ((ps.set 0 { (ps.getD 0 z93) with f3 := true }).getD M z93) with f4 := true } 4 true (fun v6 => by simp [HPL.out]) (by simp [HPL.out]) (by decide)
    have hR3 := Kd.R_drew hR2.1
    have hnd : D ≠ g := by
      intro e
      subst e
      obtain ⟨_, _, _, q, _, cells, hh⟩ := (Kd.R_bound H3.out).1 D (by simp [Value.ownBlock])
      rw [hh] at HK
      have := HK.out
      cases this
    obtain ⟨W3, hW3⟩ : ∃ W3, W3 = ((W.setCell ⟨g, 3, none⟩ (.bool true)).setCell ⟨g, M * 7 + 4, none⟩ (.bool true)).drew := ⟨_, rfl⟩
    rw [← hW3] at hR3 ⊢
    have c1 : W3.cell? ⟨f + 1, 0, none⟩ = some (.slice (some ⟨g, 0, none⟩) (M + 1) c3) := by
      rw [hW3, World.cell?_drew, World.cell?_setCell_far _ _ _ _ hgf1, World.cell?_setCell_far _ _ _ _ hgf1]; exact h1
    have hD3 : W3.heap[D]? = some (.deferred (some [])) := by
      rw [hW3]
      show ((W.setCell ⟨g, 3, none⟩ (.bool true)).setCell ⟨g, M * 7 + 4, none⟩ (.bool true)).heap[D]? = _
      rw [Below.heap_setCell _ _ _ _ hnd, Below.heap_setCell _ _ _ _ hnd]; exact HK.out
    have hB3 : Below w.heap.size w W3 := by
      rw [hW3]
      have b1 : Below w.heap.size w W := HBW.out.trans (grown_below H4.out (B := w.heap.size) (by omega) (by omega))
      have b2 := b1.grown hR1.2 b1.size (fun k e => by cases e; omega)
      have b3 := b2.grown hR2.2 b2.size (fun k e => by cases e; omega)
      exact b3.drew
    have hend := hid (hB3.trans (belowK_b (w := w) (Nat.le_refl _) W3 D _ (.deferred none) (by omega) hD3 rfl rfl))
    have HE := hid hR3
    have HD3 := hid hD3
    clear hR1 hR2 hR3 hW3 hD3 hB3 cA cB fA fB h1 h2 hgf1 hnd H3 H4 HK
    gi_wp2
    refine ⟨by simp, .inl ⟨_, _, rfl, run_takeDeferred HD3.out, ?_⟩⟩
    refine ⟨_, results_tmp2 rfl _ _ _, _, rfl, ?_, hend.out⟩
    have hmk : marked (pcs st false l tsn seq z (List.range (parts l.length z))) = (ps.set 0 { (ps.getD 0 z93) with f3 := true }).set M { ((ps.set 0 { (ps.getD 0 z93) with f3 := true }).getD M z93) with f4 := true } := by
      rw [HM.out, HPS.out]
      unfold marked
      dsimp only
      rw [List.length_set, HPL.out, Nat.add_sub_cancel]
    rw [hmk]
    exact Kd.R_lower (R_other HE.out (grownBy_putObj' W3 D (.deferred none)) (fun k e => by cases e; exact ⟨_, HD3.out, rfl⟩)) (show w.heap.size ≤ f + 4 by omega)
theorem frag_Cut.calls (a0_0 : Int) (a0_1 : Bool) (A0_2 : Option Addr) (c0_2 : Nat) (l0_2 : List Int) (a1_0 : Int) (a1_1 : Int) (a1_2 : Int) (r1 : List S93) (r2 : Option Int) (w : World) (hr0_2 : Kd.C (Kd.int .u8) w A0_2 l0_2.length l0_2) (hc0_2 : l0_2.length ≤ c0_2) (h : frag_Cut.f a0_0 a0_1 l0_2 a1_0 a1_1 a1_2 = some (r1, r2)) :
    Calls Try.prog 42 #[.agg #[.int .i64 a0_0, .bool a0_1, .slice A0_2 l0_2.length c0_2], .agg #[.int .u32 a1_0, .int .u16 a1_1, .int .i64 a1_2]] w fun e w' => ∃ v0_ : Value, e = .returned (.tuple #[v0_, errW r2]) ∧ Kd.R k93 93 w' w.heap.size (fun _ => True) v0_ r1 ∧ Below w.heap.size w w' := by
  unfold frag_Cut.f at h
  split at h
  · cases h
  split at h
  · cases h
    refine (callsIn_wide.1 (cut_bad a0_0 a0_1 A0_2 c0_2 l0_2 a1_0 a1_1 a1_2 w (by assumption))).mono ?_
    rintro e w' ⟨rfl, hb⟩
    exact ⟨_, rfl, Kd.R_nil _ _ _ _ _, hb⟩
  rename_i hg
  have hg : goodB a0_0 l0_2.length = true := by simpa using hg
  split at h
  · cases h
    refine (callsIn_wide.1 (cut_size a0_0 a0_1 A0_2 c0_2 l0_2 a1_0 a1_1 a1_2 w hg (by assumption))).mono ?_
    rintro e w' ⟨rfl, hb⟩
    exact ⟨_, rfl, Kd.R_nil _ _ _ _ _, hb⟩
  rename_i hs
  have hs : withinB a1_2 1 64 = true := by simpa using hs
  obtain ⟨z, rfl, hz1, hz2⟩ := size_of hs
  cases h
  rw [Int.toNat_natCast]
  cases a0_1 with
  | true =>
    refine (callsIn_wide.1 (cut_go_true a0_0 A0_2 c0_2 l0_2 a1_0 a1_1 z w hr0_2 hc0_2 hg hz1 hz2 hs)).mono ?_
    rintro e w' ⟨v, rfl, h1, h2⟩
    exact ⟨v, rfl, h1, h2⟩
  | false =>
    refine (callsIn_wide.1 (cut_go_false a0_0 A0_2 c0_2 l0_2 a1_0 a1_1 z w hr0_2 hc0_2 hg hz1 hz2 hs)).mono ?_
    rintro e w' ⟨v, rfl, h1, h2⟩
    exact ⟨v, rfl, h1, h2⟩
theorem many_52 (w : World) : Calls Try.prog 45 #[.int .i64 5, .int .i64 2] w fun e w' => e = .returned (.int .i64 3) ∧ w = w' := by
  have h1 : withinB 5 1 400 = true := by decide
  have h2 : withinB 2 1 64 = true := by decide
  go_enter Try.func45, Try.ntmps45
  go_wp2_with (go_at_call 74; refine (within_calls _ _ _ _).mono ?_; rintro e w' ⟨rfl, rfl⟩)
  go_ret
  exact ⟨rfl, rfl⟩
def aliveL : List S93 := marked (pcs 0 false [97, 98, 99, 100, 101] 0 0 2 (List.range 3))
theorem alive_cut : frag_Cut.f 0 false [97, 98, 99, 100, 101] 0 0 2 = some (aliveL, none) := by rfl
theorem alive_len : aliveL.length = 3 := by rfl
theorem convert_lit (w : World) (cs : Array Value) (l c : Nat) : (convert 75 75 (.slice (some ⟨w.heap.size, 0, none⟩) l c)).run Try.prog (w.alloc (.cells cs 5)) = .ok (.slice (some ⟨w.heap.size, 0, none⟩) l c) (w.alloc (.cells cs 5 (cs.size, cs.size + 1))) := by
  have hh := heap_alloc_new w (.cells cs 5)
  have hsh : (w.alloc (.cells cs 5)).shape? w.heap.size = some (5, cs.size) := by
    unfold World.shape?
    rw [hh]
  have hfr : (w.alloc (.cells cs 5)).freeze ⟨w.heap.size, cs.size, none⟩ 1 = w.alloc (.cells cs 5 (cs.size, cs.size + 1)) := by
    have hm : ∀ (a : Array Obj) (x : Obj) (f : Obj → Obj), (a.push x).modify a.size f = a.push (f x) := by
      intro a x f
      apply Array.ext
      · simp
      · intro i h1 h2
        simp only [Array.getElem_modify, Array.getElem_push]
        by_cases h : a.size = i
        · subst h
          simp
        · have hi : i < a.size := by simp at h1; omega
          simp [h, hi]
    unfold World.freeze
    rw [if_neg (by decide)]
    unfold World.alloc
    dsimp only
    rw [hm]
    simp
  simp [convert, run_underlying Try.underlying75, run_underlying Try.underlying5, markStringish, hsh, freeze, Sem.run, hfr]
theorem cell_new_fr (w : World) (cs : Array Value) (t : TypeId) (fr : Nat × Nat) (j : Nat) : (w.alloc (.cells cs t fr)).cell? ⟨w.heap.size, j, none⟩ = cs[j]? := by
  unfold World.cell?
  rw [heap_alloc_new]
  simp
def weftlinelaw16_alive.f : Option Bool := some true
set_option maxRecDepth 100000 in
set_option maxHeartbeats 2000000 in
theorem weftlinelaw16_alive.calls (r : Bool) (w : World) (h : weftlinelaw16_alive.f = some r) :
    Calls Try.prog 41 #[] w fun e w' => e = .returned (.bool r) ∧ Below w.heap.size w w' := by
  cases h
  have hu75 := Try.underlying75
  have hu5 := Try.underlying5
  have hcv := fun (cs : Array Value) (l c : Nat) => convert_lit w cs l c
  have hu77 := Try.underlying77
  have hu79 := Try.underlying79
  go_enter Try.func41, Try.ntmps41
  go_wp2_with (go_at_call 42; refine (frag_Cut.calls 0 false _ _ [97, 98, 99, 100, 101] 0 0 2 aliveL none _ ?c1 ?c2 alive_cut).mono ?_)
  case c2 => decide
  case c1 => exact Kd.C_of_reads (d := (0 : Int)) ⟨rfl, by decide, fun _ => ⟨_, rfl, fun j hj => by
    match j, hj with
    | 0, _ => exact (cell_new_fr w _ 5 (5, 6) 0).trans rfl
    | 1, _ => exact (cell_new_fr w _ 5 (5, 6) 1).trans rfl
    | 2, _ => exact (cell_new_fr w _ 5 (5, 6) 2).trans rfl
    | 3, _ => exact (cell_new_fr w _ 5 (5, 6) 3).trans rfl
    | 4, _ => exact (cell_new_fr w _ 5 (5, 6) 4).trans rfl⟩⟩
  rintro e w1 ⟨v1, rfl, hR, hB⟩
  have HB := hid (((Below.refl _ w).alloc (Nat.le_refl _) _).trans (hB.mono (by simp)))
  obtain ⟨g, cap, rfl⟩ : ∃ g cap, v1 = .slice (some ⟨g, 0, none⟩) 3 cap := by
    obtain ⟨_, inner, ho, _⟩ := hR
    rcases ho.2 with ⟨_, h⟩ | ⟨g, cap, cur, rfl, _⟩
    · exact absurd h (by rw [alive_len]; decide)
    · exact ⟨g, cap, by rw [alive_len]⟩
  have hl := alive_len
  obtain ⟨_, -, hc0⟩ := R_elem hR 0 (by omega)
  obtain ⟨v6, r6, hc1⟩ := R_elem hR 1 (by omega)
  obtain ⟨_, -, hc2⟩ := R_elem hR 2 (by omega)
  have k0 : w1.cell? ⟨g, 3, none⟩ = some (.bool true) := hc0 3 _ rfl
  have k1 : w1.cell? ⟨g, 13, none⟩ = some v6 := hc1 6 _ rfl
  have k2 : w1.cell? ⟨g, 18, none⟩ = some (.bool true) := hc2 4 _ rfl
  replace r6 : (Kd.int .u8).R 5 w1 _ _ v6 [99, 100] := r6
  obtain ⟨A6, c6, rfl, hc6, hC6⟩ := Kd.R_reads r6
  obtain ⟨a6, rfl, q0⟩ := Kd.at_int hC6 0 (by decide) (by decide)
  obtain ⟨a6', e6, q1⟩ := Kd.at_int hC6 1 (by decide) (by decide)
  cases e6
  have hst : (convert 75 9 (.slice (some a6) 2 c6)).run Try.prog w1 = .ok (.string ⟨#[99, 100]⟩) w1 :=
    run_convert_bytes_back w1 75 9 5 a6 c6 [99, 100] Try.underlying75 Try.underlying5 Try.underlying9 (fun j hj => by
      match j, hj with
      | 0, _ => exact q0
      | 1, _ => exact q1)
  clear hc0 hc1 hc2 r6 hC6 hR hB hcv hu75 hu5 hu77 hu79
  rw [errW_none]
  go_wp2_with (go_at_call 45; refine (many_52 _).mono ?_; rintro e w' ⟨rfl, rfl⟩)
  go_ret
  exact ⟨rfl, HB.out⟩
end Go.Proofs.Ytnlhlffciigcnaa.QFrag
