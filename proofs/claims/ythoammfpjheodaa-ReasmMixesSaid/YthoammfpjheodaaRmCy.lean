import Derived.Test.YthoammfpjheodaaRmCw
import Derived.Laws.OwnMore
namespace Go.Proofs.Ythoammfpjheodaa.Rz
open Go.ChangeShapes Go.WideShapes Go.ChangeAt Go.RowKit Go.Shelf MK
open Base (hid cell_new1 cell_old1 froz_new1 froz_old1)
attribute [local go_sem] Oper.semAt_some
set_option linter.unusedVariables false
set_option linter.unusedSimpArgs false
set_option maxRecDepth 100000
/-! Cut: the plain half, and what the range keeps -/
theorem add_addN (a : Addr) (i j : Nat) : (a.add i).add j = a.add (i + j) := by
  unfold Addr.add
  by_cases hi : i = 0
  · subst hi; simp
  · by_cases hj : j = 0
    · subst hj; simp [hi]
    · simp [hi, hj, Nat.add_assoc]
theorem Txt.part {w : World} {ad : Addr} {x : List Int} (h : Txt w (some ad) x) (i m : Nat) : Txt w (some (ad.add i)) ((x.drop i).take m) := fun j hj => by
  rw [List.length_take, List.length_drop] at hj
  obtain ⟨ad', e, hl, hc⟩ := h (i + j) (by omega)
  cases e
  refine ⟨_, rfl, by rw [add_block]; exact hl, ?_⟩
  rw [add_addN, hc]
  simp
theorem chunkV_eq (ad : Addr) (x : List Int) (z k : Nat) : chunkV ad x.length z k = .slice (some (ad.add (k * z))) ((x.drop (k * z)).take z).length ((x.drop (k * z)).take z).length := by
  unfold chunkV
  rw [List.length_take, List.length_drop]
/-- A piece before the marks. -/
def rawC (st : Int) (un : Bool) (q : Int) (x : List Int) (tsn : Int) (z j k : Nat) : Pm := ⟨step tsn j, st, q, false, false, un, none, (x.drop (k * z)).take z, 0⟩
def rawL (st : Int) (un : Bool) (q : Int) (x : List Int) (tsn : Int) (z : Nat) (pre : List Nat) : List Pm := pre.zipIdx.map fun p => rawC st un q x tsn z p.2 p.1
theorem rawL_snoc (st : Int) (un : Bool) (q : Int) (x : List Int) (tsn : Int) (z : Nat) (pre : List Nat) (k : Nat) : rawL st un q x tsn z (pre ++ [k]) = rawL st un q x tsn z pre ++ [rawC st un q x tsn z pre.length k] := by
  unfold rawL
  rw [List.zipIdx_append, List.map_append]
  simp
theorem rawL_len (st : Int) (un : Bool) (q : Int) (x : List Int) (tsn : Int) (z : Nat) (pre : List Nat) : (rawL st un q x tsn z pre).length = pre.length := by simp [rawL]
theorem rawL_at (st : Int) (un : Bool) (q : Int) (x : List Int) (tsn : Int) (z n k : Nat) (hk : k < n) : (rawL st un q x tsn z (List.range n))[k]? = some (rawC st un q x tsn z k k) := by
  unfold rawL
  simp [hk]
/-- The marks. -/
def markL (L : List Pm) (M : Nat) : List Pm := (L.modify 0 (fun p => { p with b := true })).modify M (fun p => { p with e := true })
theorem markL_len (L : List Pm) (M : Nat) : (markL L M).length = L.length := by simp [markL]
theorem mark_core (st : Int) (un : Bool) (q seq : Int) (x : List Int) (tsn : Int) (z M : Nat) (L : List Pm) (hM : parts x.length z = M + 1) (hL : L.map core = rawL st un q x tsn z (List.range (M + 1))) (hq : q = if un then 0 else seq) : (markL L M).map core = cutL st un x tsn seq z := by
  have hl : L.length = M + 1 := by
    have := congrArg List.length hL
    simpa [rawL_len] using this
  apply List.ext_getElem
  · simp [markL_len, cutL, hl, hM]
  · intro k h1 h2
    have hk : k < L.length := by simpa [markL_len] using h1
    have hkM : k < M + 1 := by omega
    have e : (L.map core)[k]? = _ := (congrArg (·[k]?) hL).trans (rawL_at st un q x tsn z (M + 1) k hkM)
    rw [List.getElem?_map, List.getElem?_eq_getElem hk] at e
    have e' : core L[k] = rawC st un q x tsn z k k := by simpa using e
    clear e
    unfold cutL
    simp only [List.getElem_map, List.getElem_range]
    unfold markL
    rw [List.getElem_modify, List.getElem_modify]
    generalize L[k] = P at e' ⊢
    unfold core rawC at e'
    unfold cutC core
    simp only [hM]
    simp only [Pm.mk.injEq] at e'
    obtain ⟨e1, e2, e3, e4, e5, e6, -, e8, -⟩ := e'
    by_cases h0 : 0 = k
    · subst h0
      by_cases hk0 : M = 0
      · subst hk0
        simp [e1, e2, e3, e4, e5, e6, e8, hq]
      · simp [e1, e2, e3, e4, e5, e6, e8, hq, hk0, Ne.symm hk0]
    · by_cases hk0 : M = k
      · subst hk0
        simp [e1, e2, e3, e4, e5, e6, e8, hq, h0, Ne.symm h0]
      · have : ¬ k = M := Ne.symm hk0
        simp [e1, e2, e3, e4, e5, e6, e8, hq, h0, Ne.symm h0, hk0, this]
theorem cellsP_set (i j : Nat) (v : Value) (f : Pm → Pm) (hj : j < 7) : ∀ (L : List Pm), (∀ p ∈ L, (f p).cells = p.cells.set j v) → ∀ i, i < L.length → (cellsP L).set (i * 7 + j) v = cellsP (L.modify i f)
  | [], _, _, h => by simp at h
  | p :: L, hf, 0, _ => by
    unfold cellsP
    rw [List.flatMap_cons, List.modify_zero_cons, List.flatMap_cons, hf p (List.mem_cons_self ..), Nat.zero_mul, Nat.zero_add, List.set_append_left _ _ (by show j < 7; exact hj)]
  | p :: L, hf, i + 1, hi => by
    have ih := cellsP_set i j v f hj L (fun q hq => hf q (List.mem_cons_of_mem _ hq)) i (by simpa using hi)
    unfold cellsP at ih ⊢
    rw [List.flatMap_cons, List.modify_succ_cons, List.flatMap_cons, ← ih, List.set_append_right _ _ (by show 7 ≤ _; omega)]
    congr 2
    show _ - 7 = _
    omega
theorem Row.mark {w : World} {B g c : Nat} {L : List Pm} (h : Row w B (some ⟨g, 0, none⟩) c L) (i j : Nat) (v : Value) (f : Pm → Pm) (hj : j < 7) (hf : ∀ p ∈ L, (f p).cells = p.cells.set j v) (hi : i < L.length) :
    Row (w.setCell ⟨g, i * 7 + j, none⟩ v) B (some ⟨g, 0, none⟩) c (L.modify i f) ∧ w.grownBy (w.setCell ⟨g, i * 7 + j, none⟩ v) (some g) := by
  have := World.ownsRow.stored h (i * 7 + j) v
  rw [cellsP_set 0 j v f hj L hf i hi] at this
  unfold Row
  rw [List.length_modify]
  exact this
theorem own_cells {W : World} {B n : Nat} {e : TypeId} {size : Nat} {v : Value} {xs : List Value} (h : W.ownsRow B e size v n xs) (j : Nat) (o : Obj) (hj : v.ownBlock = some j) (ho : W.heap[j]? = some o) : o.isCells = true := by
  rcases h.2 with ⟨rfl, _⟩ | ⟨g, cap, cur, rfl, _, hh, _⟩
  · simp [Value.ownBlock] at hj
  · simp [Value.ownBlock] at hj
    subst hj
    rw [hh] at ho
    cases ho
    rfl
theorem own_other {W W' : World} {B n : Nat} {e : TypeId} {size : Nat} {v : Value} {xs : List Value} {row : Option Nat} (h : W.ownsRow B e size v n xs) (hg : W.grownBy W' row) (hr : ∀ k, row = some k → ∃ o : Obj, W.heap[k]? = some o ∧ o.isCells = false) : W'.ownsRow B e size v n xs := by
  refine World.ownsRow.kept h hg ?_
  rcases hq : v.ownBlock with _ | k
  · exact .inl rfl
  · refine .inr fun e => ?_
    obtain ⟨o, ho, hc⟩ := hr k e.symm
    rw [own_cells h k o hq ho] at hc
    cases hc
theorem own_types {W : World} {B B' n n' : Nat} {e e' : TypeId} {size size' : Nat} {v v' : Value} {xs xs' : List Value} (h : W.ownsRow B e size v n xs) (h' : W.ownsRow B' e' size' v' n' xs') (hne : e ≠ e') : v.ownBlock = none ∨ v.ownBlock ≠ v'.ownBlock := by
  rcases h.2 with ⟨rfl, _⟩ | ⟨g, cap, cur, rfl, _, hh, _⟩
  · exact .inl rfl
  · refine .inr fun e => ?_
    rcases h'.2 with ⟨rfl, _⟩ | ⟨g', cap', cur', rfl, _, hh', _⟩
    · simp [Value.ownBlock] at e
    · simp [Value.ownBlock] at e
      subst e
      rw [hh] at hh'
      cases hh'
      exact hne rfl
/-- How the range stands. -/
def CutI (st : Int) (un : Bool) (q : Int) (x : List Int) (tsn : Int) (z B : Nat) (pre : List Nat) (W : World) : Prop :=
  ∃ (L : List Pm) (A : Option Addr) (c : Nat), L.map core = rawL st un q x tsn z pre ∧ W.cell? ⟨B + 1, 0, none⟩ = some (.slice A L.length c) ∧ W.frozen? ⟨B + 1, 0, none⟩ = false ∧ Row W (B + 4) A c L ∧ ∀ q ∈ L, W.ownsRow (B + 4) 5 1 (.slice q.A q.x.length q.c) q.x.length (q.x.map (.int .u8))
theorem CutI.other {st : Int} {un : Bool} {q : Int} {x : List Int} {tsn : Int} {z B : Nat} {pre : List Nat} {W W' : World} {row : Option Nat} (h : CutI st un q x tsn z B pre W) (hg : W.grownBy W' row) (hr : ∀ k, row = some k → ∃ o : Obj, W.heap[k]? = some o ∧ o.isCells = false) : CutI st un q x tsn z B pre W' := by
  obtain ⟨L, A, c, h1, h2, h3, h4, h5⟩ := h
  exact ⟨L, A, c, h1, cell_kept h2 hg hr, (frozen_kept h2 hg hr).trans h3, own_other h4 hg hr, fun p hp => own_other (h5 p hp) hg hr⟩
theorem ownFrom_grown {β : Type} (W0 : World) (cnt B : Nat) (hB : W0.heap.size ≤ B) : OwnFrom B (fun (_ : β) W => W0.grownBy W (some cnt)) := by
  intro _ W W' row hs hg hr
  refine ⟨hg.os.trans hs.os, hg.tape.trans hs.tape, hg.output.trans hs.output, Nat.le_trans hs.size hg.size, fun k hk hne => ?_⟩
  rw [hg.block k (Nat.lt_of_lt_of_le hk hs.size) (fun e => by have := (hr k e.symm).1; omega)]
  exact hs.block k hk hne
theorem CutI.len {st : Int} {un : Bool} {q : Int} {x : List Int} {tsn : Int} {z : Nat} {pre : List Nat} {L : List Pm} (h : L.map core = rawL st un q x tsn z pre) : L.length = pre.length := by
  have := congrArg List.length h
  simpa [rawL_len] using this
theorem mod_mem (L : List Pm) (f : Pm → Pm) (hf : ∀ p, (f p).A = p.A ∧ (f p).x = p.x ∧ (f p).c = p.c) (i : Nat) : ∀ q ∈ L.modify i f, ∃ p ∈ L, q.A = p.A ∧ q.x = p.x ∧ q.c = p.c := by
  intro q hq
  obtain ⟨k, hk, rfl⟩ := List.mem_iff_getElem.1 hq
  rw [List.getElem_modify]
  have hk' : k < L.length := by simpa using hk
  refine ⟨L[k], List.getElem_mem hk', ?_⟩
  split
  · exact hf _
  · exact ⟨rfl, rfl, rfl⟩
theorem markL_mem (L : List Pm) (M : Nat) : ∀ q ∈ markL L M, ∃ p ∈ L, q.A = p.A ∧ q.x = p.x ∧ q.c = p.c := by
  intro q hq
  obtain ⟨p, hp, e1, e2, e3⟩ := mod_mem _ (fun p => { p with e := true }) (fun _ => ⟨rfl, rfl, rfl⟩) M q hq
  obtain ⟨p', hp', f1, f2, f3⟩ := mod_mem _ (fun p => { p with b := true }) (fun _ => ⟨rfl, rfl, rfl⟩) 0 p hp
  exact ⟨p', hp', e1.trans f1, e2.trans f2, e3.trans f3⟩
theorem Base_grown (W : World) (p : Addr) (v : Value) : W.grownBy (W.setCell p v) (some p.block) := ⟨rfl, rfl, rfl, (KeepsWalks.setCell W _ v).size, fun k _ hne => Below.heap_setCell W p v k (fun e => hne (by rw [e]))⟩
theorem B6 {W W5 : World} {o : Obj} (h : Below (W.alloc o).heap.size (W.alloc o) W5) {u6 u0 : Value} {cs : Array Value} {t : TypeId} : Below W.heap.size W (((W5.setCell ⟨W.heap.size, 0, none⟩ u0).setCell ⟨W.heap.size, 6, none⟩ u6).alloc (.cells cs t)) := by
  have h1 : W.heap.size + 1 ≤ W5.heap.size := by have := h.size; simpa using this
  have h2 : Below W.heap.size W W5 := ((Below.refl _ W).alloc (Nat.le_refl _) o).trans (h.mono (by simp))
  have h3 := h2.grown (Base_grown W5 ⟨W.heap.size, 0, none⟩ u0) (by omega) (fun k e => by cases e; exact Nat.le_refl _)
  have h4 := h3.grown (Base_grown (W5.setCell ⟨W.heap.size, 0, none⟩ u0) ⟨W.heap.size, 6, none⟩ u6) (by simp; omega) (fun k e => by cases e; exact Nat.le_refl _)
  exact h4.alloc (by simp; omega) _
theorem keeps_below {W W' : World} (h : Below W.heap.size W W') : KeepsOthers W W' := KeepsOthers.of_grownBy (row := none) ⟨h.os, h.tape, h.output, h.size, fun k hk _ => h.block k hk⟩ (fun _ _ e => by cases e)
theorem grown_chain {W2 W W6 w' : World} {r : Nat} {row : Option Nat} (h4 : W2.grownBy W (some r)) (h6 : Below W.heap.size W W6) (hg : W6.grownBy w' row) (hrow : ∀ k, row = some k → W2.heap.size ≤ k) (u : Value) : W2.grownBy (w'.setCell ⟨r, 0, none⟩ u) (some r) := by
  have z4 := h4.size
  have z6 := h6.size
  have zg := hg.size
  refine ⟨((hg.os.trans h6.os).trans h4.os), ((hg.tape.trans h6.tape).trans h4.tape), ((hg.output.trans h6.output).trans h4.output), ?_, fun k hk hne => ?_⟩
  · have := (Base_grown w' ⟨r, 0, none⟩ u).size
    omega
  · rw [Below.heap_setCell _ _ _ _ (fun e => hne (by rw [e])), hg.block k (by omega) (fun e => by have := hrow k e.symm; omega), h6.block k (by omega), h4.block k hk hne]
theorem Base_size (w : World) (o : Obj) : (w.alloc o).heap.size = w.heap.size + 1 := by simp
theorem grown_lower {w W W' : World} {B r : Nat} (h : W.grownBy W' (some r)) (h0 : Below B w W) (hB : B ≤ W.heap.size) (hr : B ≤ r) : Below B w W' := h0.grown h hB (fun k e => by cases e; exact hr)
theorem belowK_b {B : Nat} {w : World} (hn : B ≤ w.heap.size) (W : World) (l : Nat) (o o' : Obj) (hl : w.heap.size ≤ l) (h : W.heap[l]? = some o) (_ : o.isCells = false) (_ : o.isWalk = false) : Below B W (W.putObj l o') :=
  (Below.refl B W).grown (grownBy_putObj' W l o') (by have := (Array.getElem?_eq_some_iff.1 h).1; omega) (fun k e => by cases e; omega)
theorem wpListIn_append_own_at {F : Fence} {n : Nat} {P : Program} (w : World) {ops : Array Oper} {rest : List Oper} {o : Oper} {a : Act} {Q : Exit → Act → World → Prop}
    (hg : o.guard = none) (s x : Operand) (t : TypeId) (hop : o.op = Op.call { callee := Callee.builtin Builtin.append, args := #[s, x], argTypes := #[t, t] })
    (base : Nat) (e : TypeId) (i : TypeInfo) (z : Value) (size bytes : Nat) (h1 : P.underlying t = some (.slice e)) (h2 : P.info? e = some i) (h3 : i.zero = some z) (h4 : i.size = size) (h5 : i.bytes = bytes) (h6 : z.cells.size = size) (h7 : 0 < size)
    (v : Value) (k : Nat) (xs : List Value) (hs : a.eval s = v) (hown : w.ownsRow base e size v k xs) (ad : Addr) (m c : Nat) (news : List Value) (hx : a.eval x = .slice (some ad) m c) (hn : news.length = m * size)
    (hc : ∀ j u, news[j]? = some u → w.cell? (ad.add j) = some u) (h1c : ∀ u ∈ news, u.oneCell' = true) (b1 : k + m ≤ maxLen) (b2 : (k + m) * bytes ≤ 140737488355328) (b3 : base ≤ w.heap.size)
    (hK : ∀ v' w', w'.ownsRow base e size v' (k + m) (xs ++ news) → w.grownBy w' v.ownBlock → (v'.ownBlock = v.ownBlock ∨ v'.ownBlock = some w.heap.size) → wpListIn F n P ops Q rest (a.put o.dst v') w') :
    wpListIn F n P ops Q (o :: rest) a w := by
  refine wpListIn_plain hg fun K hK' => ?_
  obtain ⟨v', w', hrun, r1, r2, _, r4⟩ := run_append_own_at (P := P) w base t o.type e i z size bytes h1 h2 h3 h4 h5 h6 h7 v k xs hown ad m c news hn hc h1c b1 b2 b3
  unfold Oper.wpIn
  refine ⟨?_, ?_⟩
  · simp [Oper.about, hop, resolve, Target.leads, Sem.run_pure]
  · rw [Oper.semAt_plain F _ _ (by rw [hop]; intro c hc'; cases hc')]
    simp [execOp, hop, resolve, invoke, builtin, hs, hx, hrun, Result.andThen]
    exact hK' _ _ (hK v' w' r1 r2 r4)
theorem wpIn_rangeFunc_brk {F : Fence} {n : Nat} {P : Program} {α : Type} {g : Operand} {ps : Array Tmp} {assign body : Code} {Q : Exit → Act → World → Prop} {id : Nat} {a : Act} {w : World}
    (hro : F.round = none) (h1 : 1 ≤ n) {gf : Nat} {lb : Array Value} (hg : a.eval g = .func (.func gf) #[] lb) (hFg : F.fn gf) (eg : ∀ args w, (callFunc gf args).run P w = .ok (.enter gf args) w)
    {encs : α → Array Value} {Kp : World → World → Prop} {S Sp : List α → Prop} {N : Nat} {w0 : World} (hseq : SeqStopsK F (n - 1) P gf lb encs Kp S Sp N w0)
    (hKt : ∀ {A B C : World}, Kp A B → Kp B C → Kp A C) (hKb : ∀ (W : World) (l : Nat) (o o' : Obj), w.heap.size ≤ l → W.heap[l]? = some o → o.isCells = false → o.isWalk = false → Kp W (W.putObj l o')) (hb0 : Below w0.heap.size w0 w) (hps : ∀ x, (encs x).size = ps.size)
    (I Ib : List α → World → Prop) (hI : OwnFrom w.heap.size I) (hIb : OwnFrom w.heap.size Ib) (h0 : I [] w) (a₁ : α → Act)
    (hassign : ∀ (l : Nat) (x : α) (W : World) (K : Act → World → Prop), K (a₁ x) W →
      assign.wpIn (F.inRound l) (n - 1 - 1) P (Exit.then K (fun _ _ _ => False)) { tmps := (ps.zip (encs x)).foldl (fun t (p, v) => t.setIfInBounds p v) a.tmps, defers := [] } W)
    (hbody : ∀ (l : Nat) (pre : List α) (x : α) (W : World), I pre W → pre.length < N → body.wpIn (F.inRound l) (n - 1 - 1) P (ownPostK Kp I (fun c pre W => c = .exit id ∧ Ib pre W) (pre ++ [x]) W) (a₁ x) W)
    (E : World → Prop) (hd : ∀ xs W, S xs → I xs W → E W) (hs : ∀ xs W, Sp xs → Ib xs W → E W)
    (hend : ∀ (D : Nat) (W : World), w.heap.size ≤ D → E W → W.heap[D]? = some (.deferred (some [])) → Q .normal { a with defers := { target := .collected D, args := #[] } :: a.defers } W) :
    (Code.rangeFunc g ps assign body).wpIn F n P (Exit.inBlock id Q) a w := by
  refine wpIn_rangeFunc_ownF hro h1 hg hFg eg hseq hKt hKb hb0 hps I (fun c pre W => c = .exit id ∧ Ib pre W) hI (fun c s W W' row hs hg hr => ⟨hs.1, hIb s W W' row hs.2 hg hr⟩) h0 a₁ hassign hbody ?_ ?_
  · intro D xs W hD hS hI' hK
    exact hend D W hD (hd xs W hS hI') hK
  · rintro D c pre W hD hSp ⟨rfl, hb⟩ hK
    refine wpIn_exit ?_
    show (if id = id then _ else _)
    rw [if_pos rfl]
    exact hend D W hD (hs pre W hSp hb) hK
end Go.Proofs.Ythoammfpjheodaa.Rz
