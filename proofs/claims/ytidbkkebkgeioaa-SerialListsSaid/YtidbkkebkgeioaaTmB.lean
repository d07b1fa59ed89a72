import Derived.Test.YtidbkkebkgeioaaTmA
namespace Go.Proofs.Ytidbkkebkgeioaa.TmA
open Go.ChangeShapes Go.WideShapes Go.ChangeAt Go.RowKit Go.Shelf MK
open Base (hid cell_new1 cell_old1 froz_new1 froz_old1)
attribute [local go_sem] Oper.semAt_some
set_option linter.unusedVariables false
/-! rows behind a sort, of whatever elements of one cell -/
section
open Go.Sort
variable {α : Type} [Inhabited α]
theorem holds_blk (enc : α → Value) {w : World} {g : Nat} {cur : Array Value} {e : TypeId} {ss : List α} (hb : w.heap[g]? = some (.cells cur e (0, 0))) (ht : cur.toList.take ss.length = ss.map enc) : Holds enc w g 0 ss.toArray := by
  intro j hj
  have hj' : j < ss.length := by simpa using hj
  refine ⟨?_, by simp [World.frozen?, hb]⟩
  have h1 : (cur.toList.take ss.length)[j]? = (ss.map enc)[j]? := by rw [ht]
  rw [List.getElem?_take_of_lt hj'] at h1
  simp only [World.cell?, hb, Nat.zero_add]
  simp only [Option.isSome_none, Bool.false_eq_true, if_false]
  rw [← Array.getElem?_toList, h1]
  simp [hj']
theorem heap_srt (enc : α → Value) {w : World} {g n : Nat} {os : Array Obj} {cur : Array Value} {e : TypeId} {fr : Nat × Nat} (d : Array α) (hb : w.heap[g]? = some (.cells cur e fr)) :
    (grow (putRow enc (Sort.ahead w n) g 0 d) os).heap[g]? = some (.cells (putCells enc 0 d cur) e fr) := by
  have hg : g < w.heap.size := (Array.getElem?_eq_some_iff.1 hb).1
  rw [heap_grow_old _ _ (by simpa using hg)]
  simp [putRow, mapBlock, Sort.ahead, Array.getElem?_modify, hb, onCells]
theorem grown_srt (enc : α → Value) {w : World} {g n : Nat} {os : Array Obj} (d : Array α) : w.grownBy (grow (putRow enc (Sort.ahead w n) g 0 d) os) (some g) := by
  refine ⟨rfl, rfl, rfl, by simp, fun k hk hne => ?_⟩
  rw [heap_grow_old _ _ (by simpa using hk)]
  have : g ≠ k := fun e => hne (by rw [e])
  simp [putRow, mapBlock, Sort.ahead, Array.getElem?_modify, this]
theorem take_put (enc : α → Value) (cur : Array Value) (ts : List α) (h : ts.length ≤ cur.size) : (putCells enc 0 ts.toArray cur).toList.take ts.length = ts.map enc := by
  apply List.ext_getElem?
  intro j
  by_cases hj : j < ts.length
  · rw [List.getElem?_take_of_lt hj, Array.getElem?_toList]
    simp [putCells, hj, show j < cur.size by omega]
  · rw [List.getElem?_take_eq_none (by omega), List.getElem?_eq_none (by simp; omega)]
theorem owns_srt (enc : α → Value) {w : World} {base g cap n : Nat} {e : TypeId} {os : Array Obj} {cur : Array Value} {k : Nat} {ts : List α} (hl : ts.length = k) (hbase : base ≤ g) (hb : w.heap[g]? = some (.cells cur e (0, 0)))
    (h1 : k ≤ cap) (h2 : cap ≤ maxLen) (h3 : cur.size = cap * 1) :
    (grow (putRow enc (Sort.ahead w n) g 0 ts.toArray) os).ownsRow base e 1 (.slice (some ⟨g, 0, none⟩) k cap) k (ts.map enc) :=
  ⟨by simp [hl], .inr ⟨g, cap, _, rfl, hbase, heap_srt enc _ hb, h1, h2, by simp [putCells, h3], by rw [Nat.mul_one, ← hl]; exact take_put enc cur ts (by omega)⟩⟩
end
/-- Ints of 64 bits. -/
abbrev K64 := { x : Int // I64 x }
instance : Inhabited K64 := ⟨⟨0, by decide⟩⟩
def encK (x : K64) : Value := .int .i64 x.1
theorem sort_map (m : Tm.M) (l : List K64) : (l.mergeSort fun x y => !ltOf (fun a b : K64 => cf m a.1 b.1) y x).map (·.1) = (l.map (·.1)).mergeSort (Tm.le m) := by
  rw [List.map_mergeSort (s := Tm.le m)]
  intro a _ b _
  exact congrFun (congrFun (le_cf m) a.1) b.1
/-- slices.SortFunc of keys by their ticks. -/
theorem sortFunc_calls (w : World) (bv b n : Nat) (m : Tm.M) (base : Nat) (v : Value) (ss : List Int) (hw : ∀ x ∈ ss, I64 x) (hv : w.cell? ⟨bv, 0, none⟩ = some (.map (some b))) (hm : MapIs Try.prog 3 w KI b n (fI m) m.length)
    (hr : w.ownsRow base 3 1 v ss.length (ss.map (.int .i64))) (hbv : ∀ g, v.ownBlock = some g → g ≠ bv ∧ g ≠ b) (hl : ss.length ≤ 1000000) :
    Calls Try.prog 71 #[v, .func (.func 54) #[] #[.pointer (some ⟨bv, 0, none⟩)]] w fun e w' => e = .returned (.tuple #[]) ∧ w'.ownsRow base 3 1 v ss.length ((ss.mergeSort (Tm.le m)).map (.int .i64)) ∧ w.grownBy w' v.ownBlock := by
  rcases hr.2 with ⟨rfl, hz⟩ | ⟨g, cap, cur, rfl, hbase, hg, r1, r2, r3, r4⟩
  · have hss : ss = [] := List.eq_nil_of_length_eq_zero hz
    subst hss
    have h := AnyF.slices_SortFunc_none (P := Try.prog) (ρ := Try.sortI_ren) { Try.sortI with } none 0 (.func (.func 54) #[] #[.pointer (some ⟨bv, 0, none⟩)]) w
    change Calls Try.prog 71 _ _ _ at h
    refine h.mono ?_
    rintro e w' ⟨rfl, rfl⟩
    exact ⟨rfl, by simpa using hr, World.grownBy.refl _ _⟩
  · obtain ⟨ks, hks⟩ : ∃ ks : List K64, ks.map (·.1) = ss := ⟨ss.attachWith _ hw, by simp⟩
    have hkl : ks.length = ss.length := by rw [← hks, List.length_map]
    have hmap : ss.map (Value.int .i64) = ks.map encK := by rw [← hks, List.map_map]; rfl
    have hgl : g < w.heap.size := (Array.getElem?_eq_some_iff.1 hg).1
    have hne := hbv g rfl
    have hH : Go.Sort.Holds encK w g 0 ks.toArray := holds_blk encK hg (by rw [hkl, ← hmap]; simpa using r4)
    have eg : ∀ args w, (callFunc 54 args).run Try.prog w = .ok (.enter 54 args) w := enters_of Try.func54 (by kernel_rfl) rfl
    have hcmp : CmpLays1 Try.prog 54 #[.pointer (some ⟨bv, 0, none⟩)] encK (fun a b : K64 => cf m a.1 b.1) g 0 ks.toArray.size w := by
      intro q os dk hs x y
      have hg1 : w.grownBy (sortWorld encK w g 0 q dk os) (some g) := grown_srt encK dk
      refine (closure_calls (sortWorld encK w g 0 q dk os) bv b n m x.1 y.1 ?_ ?_ x.2 y.2).mono ?_
      · exact (World.cell?_of_block (w := w) (a := ⟨bv, 0, none⟩) (hg1.block bv (lt_of_cell hv) (fun e => hne.1 (by cases e; rfl)))).trans hv
      · exact hm.block (hg1.block b hm.lt (fun e => hne.2 (by cases e; rfl)))
      · rintro e w' ⟨rfl, o, rfl⟩
        exact ⟨rfl, 0, #[o], by rw [Go.Sort.alloc_eq_grow]; rfl⟩
    have h := Any.slices_SortFunc_total Try.sortI encK (fun _ => rfl) (fun a b : K64 => cf m a.1 b.1) ⟨fun x => (swo m).irrefl x.1, fun x y z => (swo m).trans x.1 y.1 z.1, fun x y z => (swo m).ntrans x.1 y.1 z.1⟩ 54 #[.pointer (some ⟨bv, 0, none⟩)] g 0 cap ks.toArray w eg hcmp hH hgl (by simp; omega) (fun x y h1 h2 => Subtype.ext (tot m x.1 y.1 h1 h2))
    change Calls Try.prog 71 _ _ _ at h
    rw [show ks.toArray.size = ss.length by simpa using hkl] at h
    refine h.mono ?_
    rintro e w' ⟨rfl, q, os, rfl⟩
    refine ⟨rfl, ?_, grown_srt encK _⟩
    have := owns_srt encK (w := w) (n := q) (os := os) (ts := ks.mergeSort fun x y => !ltOf (fun a b : K64 => cf m a.1 b.1) y x) (k := ss.length) (by rw [List.length_mergeSort, hkl]) hbase hg r1 r2 r3
    rw [show (ks.mergeSort fun x y => !ltOf (fun a b : K64 => cf m a.1 b.1) y x).map encK = ((ks.mergeSort fun x y => !ltOf (fun a b : K64 => cf m a.1 b.1) y x).map (·.1)).map (.int .i64) by rw [List.map_map]; rfl, sort_map, hks] at this
    exact this
/-- slices.SortedFunc(maps.Keys(..), ..). -/
theorem sortedFunc_calls (w : World) (bk bv b n : Nat) (m : Tm.M) (hok : Tm.Ok m) (hwf : ∀ p ∈ m, I64 p.1) (hk : w.cell? ⟨bk, 0, none⟩ = some (.map (some b))) (hv : w.cell? ⟨bv, 0, none⟩ = some (.map (some b))) (hm : MapIs Try.prog 3 w KI b n (fI m) m.length) (hl : m.length ≤ 1000000) :
    Calls Try.prog 52 #[.func (.func 72) #[] #[.pointer (some ⟨bk, 0, none⟩)], .func (.func 54) #[] #[.pointer (some ⟨bv, 0, none⟩)]] w fun e w' => ∃ v, e = .returned v ∧ w'.ownsRow w.heap.size 3 1 v (Tm.order m).length ((Tm.order m).map (.int .i64)) ∧ Below w.heap.size w w' := by
  refine (callsIn_wide (n := 6)).1 ?_
  obtain ⟨D, ho, h2, h3, h4⟩ := hm
  have hbk := lt_of_cell hk
  have hbv := lt_of_cell hv
  have hbl := ho.lt
  have hseq : SeqGives Fence.wide 3 Try.prog 72 #[.pointer (some ⟨bk, 0, none⟩)] Go.encZ (fun ss => ss.Perm (Go.intKeys D)) (Maps.size D) w :=
    AnyZI.keys_gives (ρ := Try.keysI_ren) { Try.keysI with } Fence.wide _ trivial rfl (by omega) bk b n D w hbk hk ho
  have hC := AnyZI.collect_in Try.colI Fence.wide 5 trivial trivial rfl (by omega) 72 #[.pointer (some ⟨bk, 0, none⟩)] trivial (enters_of Try.func72 (by kernel_rfl) rfl) _ (Maps.size D) (by rw [h4]; unfold maxLen; omega) (by rw [h4]; omega) w hseq
  change CallsIn _ _ Try.prog 70 _ _ _ at hC
  have hperm : ∀ ss : List Int, ss.Perm (Go.intKeys D) → ss.Perm (m.map (·.1)) := fun ss hs =>
    keys_perm Try.underlying3 ho (fun x hx => by
      refine (h2 x hx).trans ?_
      rw [fI_some, Bool.eq_iff_iff, Tm.look_isSome, decide_eq_true_iff]) (Tm.keys_nodup hok) (fun x hx => by
      obtain ⟨p, hp, rfl⟩ := List.mem_map.1 hx
      exact hwf p hp) hs
  have HC := hid hC
  have HP := hid hperm
  have HM := hid (show MapIs Try.prog 3 w KI b n (fI m) m.length from ⟨D, ho, h2, h3, h4⟩)
  have HW := hid hwf
  have f70 : Fence.wide.fn 70 := trivial
  have f71 : Fence.wide.fn 71 := trivial
  clear hseq hC hperm ho h2 h3 h4 hwf hk
  refine callsIn_of_wp Try.func52 rfl trivial ?_ rfl
  simp only [Try.ntmps52, List.size_toArray, List.length_cons, List.length_nil, Nat.reduceAdd, Nat.reduceSub, Array.replicate_succ, Array.replicate_zero, List.push_toArray, List.append_toArray, List.nil_append, List.cons_append]
  refine wpIn_wide.2 ?_
  go_wp2_with (go_at_call 70; refine (callsIn_wide.1 HC.out).mono ?_; rintro e w1 ⟨v, ss, rfl, hS, hrow, hnil, hb⟩; have HS := hid hS; have HROW := hid hrow; have HB := hid hb; clear hS hrow hnil hb)
  have hp := HP.out ss HS.out
  have hsl : ss.length = m.length := by rw [hp.length_eq, List.length_map]
  have hsort := sortFunc_calls w1 bv b n m w.heap.size v ss (fun x hx => by
      have := (hp.mem_iff).1 hx
      obtain ⟨p, hp, rfl⟩ := List.mem_map.1 this
      exact HW.out p hp) ((HB.out.cell (p := ⟨bv, 0, none⟩) hbv).trans hv) (HM.out.block (HB.out.block b hbl)) HROW.out (fun g hg => by
      rcases HROW.out.2 with ⟨rfl, _⟩ | ⟨g', cap, cur, rfl, hb', _⟩
      · simp [Value.ownBlock] at hg
      · simp [Value.ownBlock] at hg
        omega) (by omega)
  have HSO := hid hsort
  have hord := Tm.order_of_perm m ss hp
  have HO := hid hord
  have HSL := hid hsl
  clear hsort hord hp hsl hv hok
  go_wp2_with (go_at_call 71; refine HSO.out.mono ?_; rintro e w2 ⟨rfl, hrow2, hg2⟩; have HR2 := hid hrow2; have HG2 := hid hg2; clear hrow2 hg2)
  go_ret
  have hr := HR2.out
  rw [HO.out] at hr
  refine ⟨v, rfl, ?_, HB.out.grown HG2.out HB.out.size (fun g hg => ?_)⟩
  · rw [Tm.order_len, ← HSL.out]
    exact hr
  · rcases HROW.out.2 with ⟨rfl, _⟩ | ⟨g', cap, cur, rfl, hb', _⟩
    · simp [Value.ownBlock] at hg
    · simp [Value.ownBlock] at hg
      omega
/-- (*Table).byTick. -/
theorem byTick_calls (w : World) (bt b n : Nat) (m : Tm.M) (h : Tab w bt b n m) (hl : m.length ≤ 1000000) :
    Calls Try.prog 44 #[.pointer (some ⟨bt, 0, none⟩)] w fun e w' => ∃ v, e = .returned v ∧ w'.ownsRow w.heap.size 3 1 v (Tm.order m).length ((Tm.order m).map (.int .i64)) ∧ Below w.heap.size w w' := by
  have hp := h.ptr
  have hb := h.lt
  obtain ⟨w2, hw2⟩ : ∃ w2, w2 = (w.alloc (.cells #[.map (some b)] 73)).alloc (.cells #[.map (some b)] 73) := ⟨_, rfl⟩
  have hb2 : Below w.heap.size w w2 := by rw [hw2]; exact below_alloc (below_alloc (Below.refl _ _) _) _
  have hS := sortedFunc_calls w2 (w.heap.size + 1) w.heap.size b n m h.ok (fun p hp => (h.wf p hp).1) (by rw [hw2, cell_new1 _ _ _ _ (by simp)]; rfl) (by rw [hw2, cell_old1 _ _ _ (by simp), cell_new1 _ _ _ _ rfl]; rfl) (h.map.below hb2) hl
  have hK : ∀ W, Calls Try.prog 53 #[.map (some b)] W fun e w' => e = .returned (.func (.func 72) #[] #[.pointer (some ⟨W.heap.size, 0, none⟩)]) ∧ w' = W.alloc (.cells #[.map (some b)] 73) := fun W => callsIn_wide.1 (AnyZI.keys_in Try.keysI Fence.wide 5 trivial rfl (some b) W)
  have HS := hid hS
  have HK := hid hK
  have HB2 := hid hb2
  have HW2 := hid hw2
  clear hS hK hb2 hw2 h
  go_enter Try.func44, Try.ntmps44
  go_wp2_with (first
    | (go_at_call 43; refine (own_calls w bt _ hp ⟨_, rfl⟩).mono ?_; rintro e w' ⟨rfl, rfl⟩)
    | (go_at_call 53; refine (HK.out _).mono ?_; rintro e w' ⟨rfl, rfl⟩)
    | (go_at_call 52; rw [← HW2.out]; refine HS.out.mono ?_; rintro e w3 ⟨v, rfl, hr, hb3⟩; have HR := hid hr; have HB3 := hid hb3; clear hr hb3))
  go_ret
  exact ⟨v, rfl, Base.ownsRow_base HR.out HB2.out.size, HB2.out.trans (HB3.out.mono HB2.out.size)⟩
theorem own_some {W : World} {B n : Nat} {e : TypeId} {size : Nat} {v : Value} {xs : List Value} (h : W.ownsRow B e size v n xs) (hn : 0 < n) : ∃ g c, v = .slice (some ⟨g, 0, none⟩) n c ∧ B ≤ g := by
  rcases h.2 with ⟨_, h0⟩ | ⟨g, cap, cur, rfl, hb, _⟩
  · omega
  · exact ⟨g, cap, rfl, hb⟩
theorem below_drewN {B : Nat} {w w' : World} (h : Below B w w') (n : Nat) : Below B w (w'.drewN n) := ⟨h.os, h.tape, h.output, h.size, h.block⟩
/-- What Next answers. -/
def nextV (m : Tm.M) : Value := match Tm.order m with
  | [] => .tuple #[.int .i64 0, .int .i64 0, .bool false]
  | k :: _ => .tuple #[.int .i64 k, .int .i64 (Tm.lk m k), .bool true]
theorem order_I64 {w : World} {bt b n : Nat} {m : Tm.M} (h : Tab w bt b n m) : ∀ k ∈ Tm.order m, I64 k := by
  intro k hk
  have := Tm.look_isSome.1 (Tm.order_mem.1 hk)
  obtain ⟨p, hp, rfl⟩ := List.mem_map.1 this
  exact (h.wf p hp).1
set_option maxRecDepth 100000 in
theorem next_calls (w : World) (bt b n : Nat) (m : Tm.M) (h : Tab w bt b n m) (hl : m.length ≤ 1000000) :
    Calls Try.prog 23 #[.pointer (some ⟨bt, 0, none⟩)] w fun e w' => e = .returned (nextV m) ∧ Below w.heap.size w w' := by
  have hB := byTick_calls w bt b n m h hl
  have hi := order_I64 h
  unfold nextV
  obtain ⟨os, hos⟩ : ∃ os, Tm.order m = os := ⟨_, rfl⟩
  rw [hos] at hB hi ⊢
  have HB := hid hB
  have H := hid h
  clear hB h
  cases os with
  | nil =>
    clear hos hi
    go_enter Try.func23, Try.ntmps23
    go_wp2_with (go_at_call 44; refine HB.out.mono ?_; rintro e w1 ⟨v, rfl, hr, hb⟩; obtain ⟨A, c, rfl, _⟩ := Base.slice_of_row hr; have HBB := hid hb; clear hr hb; simp only [List.length_nil])
    go_ret3
    exact ⟨rfl, HBB.out⟩
  | cons k r =>
    have hk : I64 k := hi k List.mem_cons_self
    clear hos hi
    go_enter Try.func23, Try.ntmps23
    have hd : (((r.length : Nat) : Int) + 1 == 0) = false := by rw [beq_eq_false_iff_ne]; omega
    go_wp2_with (go_at_call 44; refine HB.out.mono ?_; rintro e w1 ⟨v, rfl, hr, hb⟩; obtain ⟨g, c, rfl, hg⟩ := own_some hr (by simp); have HR := hid hr; have HBB := hid hb; clear hr hb; simp only [List.length_cons])
    have H1 := H.out.below HBB.out
    have c0 : w1.cell? ⟨g, 0, none⟩ = some (.int .i64 k) := HR.out.cells (g := g) rfl 0 _ rfl
    have cp := H1.ptr
    have hlk : ∀ q, (Instr.lookup 73 (.map (some b)) (.int .i64 k) false).run Try.prog (w1.drewN q) = .ok (.int .i64 (Tm.lk m k)) (w1.drewN q) := by
      intro q
      have hm : MapIs Try.prog 3 (w1.drewN q) KI b n (fI m) m.length := H1.map.block rfl
      have := hm.lookup Try.underlying73 (Try.zeroValue3 _) k hk
      rwa [fI_get] at this
    clear H1
    go_quiet (fail)
    go_wp2
    go_ret3
    exact ⟨rfl, below_drewN HBB.out _⟩
theorem info3 : (Try.prog.info? 3).map (fun i => (i.zero, i.size, i.bytes)) = some (some (.int .i64 0), 1, 8) := by kernel_rfl
theorem grown_below {w w1 w2 : World} {row : Option Nat} (h : Below w.heap.size w w1) (hg : w1.grownBy w2 row) : w.grownBy w2 row :=
  ⟨hg.os.trans h.os, hg.tape.trans h.tape, hg.output.trans h.output, Nat.le_trans h.size hg.size, fun k h1 h2 => (hg.block k (Nat.lt_of_lt_of_le h1 h.size) h2).trans (h.block k h1)⟩
theorem add0 (g i : Nat) : (⟨g, 0, none⟩ : Addr).add i = ⟨g, i, none⟩ := by
  unfold Addr.add
  split <;> simp_all
theorem due_take (m : Tm.M) (now : Int) (i : Nat) (hi : i ≤ (Tm.order m).length) (h1 : ∀ j (h : j < (Tm.order m).length), j < i → Tm.lk m (Tm.order m)[j] ≤ now) (h2 : ∀ h : i < (Tm.order m).length, now < Tm.lk m (Tm.order m)[i]) : Tm.due m now = (Tm.order m).take i := by
  unfold Tm.due
  generalize Tm.order m = os at *
  have e : os = os.take i ++ os.drop i := (List.take_append_drop _ _).symm
  have hall : ∀ x ∈ os.take i, decide (Tm.lk m x ≤ now) = true := by
    intro x hx
    obtain ⟨j, hj, rfl⟩ := List.mem_iff_getElem.1 hx
    rw [List.getElem_take]
    rw [List.length_take] at hj
    exact decide_eq_true (h1 j (by omega) (by omega))
  conv => lhs; rw [e]
  rw [List.takeWhile_append_of_pos hall]
  rcases Nat.lt_or_ge i os.length with hlt | hge
  · rw [List.drop_eq_getElem_cons hlt, List.takeWhile_cons_of_neg (by simpa using h2 hlt), List.append_nil]
  · rw [List.drop_eq_nil_of_le hge, List.takeWhile_nil, List.append_nil]
theorem lk_delAll {m : Tm.M} {ks : List Int} {k : Int} (h : k ∉ ks) : Tm.lk (Tm.delAll m ks) k = Tm.lk m k := by
  unfold Tm.lk
  rw [Tm.look_delAll, if_neg h]
theorem wrap_small (i : Nat) (h : i ≤ 1000000) : wrap64 ((i : Int) + 1) = ((i + 1 : Nat) : Int) := by unfold wrap64; omega
set_option maxRecDepth 100000 in
set_option maxHeartbeats 4000000 in
theorem due_calls (w : World) (bt b n : Nat) (m : Tm.M) (now : Int) (h : Tab w bt b n m) (hl : m.length ≤ 1000000) :
    Calls Try.prog 21 #[.pointer (some ⟨bt, 0, none⟩), .int .i64 now] w fun e w' => ∃ v, e = .returned v ∧ w'.ownsRow w.heap.size 3 1 v (Tm.due m now).length ((Tm.due m now).map (.int .i64)) ∧ Tab w' bt b n (Tm.rest m now) ∧ w.grownBy w' (some b) := by
  obtain ⟨i0, hi, hi0, hi1, hi2⟩ := info_parts info3
  have hB := byTick_calls w bt b n m h hl
  have hI := order_I64 h
  have hnd := Tm.order_nodup h.ok
  have hol := Tm.order_len m
  have hdt := due_take m now
  unfold Tm.rest
  obtain ⟨os, hos⟩ : ∃ os, Tm.order m = os := ⟨_, rfl⟩
  rw [hos] at hB hI hnd hol hdt
  have hosl : os.length ≤ 1000000 := by omega
  have HB := hid hB
  have H := hid h
  have HI := hid hI
  have HND := hid hnd
  have HDT := hid hdt
  have hlt0 := h.lt
  have hbt0 := hlt0.1
  have hb0 := hlt0.2
  clear hB h hI hnd hdt hos hol hlt0
  go_enter Try.func21, Try.ntmps21
  go_wp2_with (go_at_call 44; refine HB.out.mono ?_; rintro e w1 ⟨v, rfl, hr, hb⟩; obtain ⟨A, c, rfl, hc⟩ := Base.slice_of_row hr; have HR := hid hr; have HBB := hid hb; clear hr hb)
  have hs1 := HBB.out.size
  go_loopw [5, 11] (fun v5 v11 wr => ∃ (i : Nat) (ks : List Int), i ≤ os.length ∧ v11 = .int .i64 i ∧ Hid (ks = os.take i) ∧ Hid (∀ j (h : j < os.length), j < i → Tm.lk m os[j] ≤ now) ∧ Hid (wr.ownsRow w1.heap.size 3 1 v5 i (ks.map (.int .i64))) ∧ Hid (Tab wr bt b n (Tm.delAll m ks)) ∧ Hid (w1.grownBy wr (some b))) (fun _ v11 _ => os.length - (intOf v11).toNat)
  case atStart => exact ⟨0, [], Nat.zero_le _, rfl, hid rfl, hid (fun j _ h => by omega), hid (World.ownsRow_nil _ _ _ _), hid (H.out.below HBB.out), hid (World.grownBy.refl _ _)⟩
  case round =>
    obtain ⟨i, ks, hio, rfl, HKS, HJ, HO, HT, HG⟩ := hrel
    have hkl : Hid (ks.length = i) := hid (by rw [HKS.out, List.length_take]; omega)
    have hbr : b < wr.heap.size := HT.out.lt.2
    have hbtr : bt < wr.heap.size := HT.out.lt.1
    have hsr := HG.out.size
    by_cases hlt : i < os.length
    · have hIi : I64 os[i] := HI.out _ (List.getElem_mem hlt)
      have hnin : os[i] ∉ ks := by
        rw [HKS.out]
        intro hm
        obtain ⟨j, hj, e⟩ := List.mem_iff_getElem.1 hm
        rw [List.length_take] at hj
        rw [List.getElem_take] at e
        exact (List.pairwise_iff_getElem.1 (List.nodup_iff_pairwise_ne.1 HND.out)) j i (by omega) hlt (by omega) e
      have htk : os.take (i + 1) = ks ++ [os[i]] := by rw [HKS.out]; exact List.take_succ_eq_append_getElem hlt
      have hlk : (Instr.lookup 73 (.map (some b)) (.int .i64 os[i]) false).run Try.prog wr = .ok (.int .i64 (Tm.lk m os[i])) wr := by
        have := HT.out.map.lookup Try.underlying73 (Try.zeroValue3 wr) os[i] hIi
        rw [fI_get, lk_delAll hnin] at this
        exact this
      obtain ⟨g, rfl, hgb⟩ : ∃ g, A = some ⟨g, 0, none⟩ ∧ g < w1.heap.size ∧ w.heap.size ≤ g := by
        rcases HR.out.2 with ⟨e, h0⟩ | ⟨g, cap, cur, e, hb', hgg, _⟩
        · omega
        · cases e
          exact ⟨g, rfl, (Array.getElem?_eq_some_iff.1 hgg).1, hb'⟩
      have hgne : g ≠ b := by omega
      have hcell : wr.cell? ⟨g, i, none⟩ = some (.int .i64 os[i]) := by
        have h1 := HR.out.cells (g := g) rfl i (.int .i64 os[i]) (by simp [hlt])
        rw [add0] at h1
        exact (World.cell?_of_block (w := w1) (a := ⟨g, i, none⟩) (HG.out.block g hgb.1 (fun e => hgne (by cases e; rfl)))).trans h1
      have hp := HT.out.ptr
      have HIi := hid hIi
      have HTK := hid htk
      have HN := hid hnin
      have hLK : ∀ h : i < os.length, Tm.lk m os[i] = Tm.lk m os[i] := fun _ => rfl
      obtain ⟨u, hu⟩ : ∃ u, Tm.lk m os[i] = u := ⟨_, rfl⟩
      obtain ⟨kk, hkk⟩ : ∃ kk, os[i] = kk := ⟨_, rfl⟩
      rw [hu] at hlk
      rw [hkk] at hlk hcell HIi HTK HN
      have HU := hid hu
      have HKK := hid hkk
      clear hIi hnin htk hLK hu hkk
      by_cases hgt : now < u
      · have hd : decide (now < u) = true := by simpa using hgt
        have hdue := HDT.out i hio HJ.out (fun h => by rw [HU.out]; exact hgt)
        have HDUE := hid hdue
        clear hdue
        go_wp2
        go_ret
        rw [HDUE.out, ← HKS.out, hkl.out]
        exact ⟨_, rfl, Base.ownsRow_base HO.out hs1, HT.out, grown_below HBB.out HG.out⟩
      · have hd : decide (now < u) = false := by simpa using hgt
        have HW : Hid (w1.heap.size ≤ wr.heap.size) := hid hsr
        go_wp2_with (at_builtin; go_must (refine wpList_append_own_at _ rfl _ _ 25 rfl w1.heap.size 3 i0 (.int .i64 0) 1 8 Try.underlying25 hi hi0 hi1 hi2 rfl (by decide) _ _ _ rfl (Base.ownsRow_later HO.out (below_alloc (Below.refl _ _) _)) ⟨wr.heap.size, 0, none⟩ 1 1 [.int .i64 kk] rfl rfl ?news ?one ?c3 ?c4 ?c5 ?_))
        case one => rfl
        case c3 => unfold maxLen; omega
        case c4 => omega
        case c5 => have := HW.out; omega
        intro v6 w2 own2 hg2 _ hat2
        have hsz2 := hg2.size
        simp only [World.size_alloc] at hsz2
        obtain ⟨A6, d6, rfl, _⟩ := Base.slice_of_row own2
        have hu5 : ∀ q, u5.ownBlock = some q → q ≠ bt ∧ q ≠ b ∧ w1.heap.size ≤ q := by
          intro q hq
          rcases HO.out.2 with ⟨rfl, _⟩ | ⟨g', cap, cur, rfl, hb', _⟩
          · simp [Value.ownBlock] at hq
          · simp [Value.ownBlock] at hq
            omega
        have hT2 : Tab w2 bt b n (Tm.delAll m ks) := (HT.out.below (below_alloc (Below.refl _ _) _)).kept (hg2.block bt (by simp; omega) (fun e => (hu5 bt e.symm).1 rfl)) (hg2.block b (by simp; omega) (fun e => (hu5 b e.symm).2.1 rfl))
        obtain ⟨w3, hrun, hT3, ht3⟩ := hT2.drop kk HIi.out 0
        have hp2 := hT2.ptr
        have hG3 : w1.grownBy w3 (some b) := by
          have g1 : w1.grownBy w2 (some b) := by
            refine ⟨hg2.os.trans HG.out.os, hg2.tape.trans HG.out.tape, hg2.output.trans HG.out.output, by omega, fun k h1 h2 => ?_⟩
            rw [hg2.block k (by simp; omega) (fun e => by have := (hu5 k e.symm).2.2; omega), Below.heap_alloc _ _ _ (by omega)]
            exact HG.out.block k h1 h2
          have g2 := ht3.grown
          exact ⟨g2.os.trans g1.os, g2.tape.trans g1.tape, g2.output.trans g1.output, Nat.le_trans g1.size g2.size, fun k h1 h2 => (g2.block k (Nat.lt_of_lt_of_le h1 g1.size) h2).trans (g1.block k h1 h2)⟩
        have own3 : w3.ownsRow w1.heap.size 3 1 (.slice A6 (i + 1) d6) (i + 1) ((ks ++ [kk]).map (.int .i64)) := by
          rw [List.map_append, List.map_cons, List.map_nil]
          exact own2.kept ht3.grown (.inr fun e => by
            obtain ⟨D, ⟨es, clock, hbm, _⟩, _⟩ := hT2.map
            rcases own2.2 with ⟨e', _⟩ | ⟨g', cap, cur, e', hb', hgg, _⟩
            · rw [e'] at e
              simp [Value.ownBlock] at e
            · rw [e'] at e
              simp [Value.ownBlock] at e
              subst e
              rw [hbm] at hgg
              cases hgg)
        have O3 := hid own3
        have T3 := hid hT3
        have G3 := hid hG3
        clear own2 hg2 hat2 hT2 hT3 ht3 hG3 own3 hu5 hsz2
        go_wp2
        go_roundw
        case rel =>
          refine ⟨i + 1, ks ++ [kk], by omega, by go_num, hid HTK.out.symm, hid (fun j hj hji => ?_), O3, hid (by rw [Tm.delAll_snoc]; exact T3.out), G3⟩
          rcases Nat.lt_or_ge j i with h | h
          · exact HJ.out j hj h
          · obtain rfl : j = i := by omega
            rw [HU.out]
            omega
        case measure => simp [intOf]; omega
    · obtain rfl : i = os.length := by omega
      have hdue := HDT.out os.length hio HJ.out (fun h => by omega)
      have HDUE := hid hdue
      clear hdue
      go_wp2
      go_ret
      rw [HDUE.out, ← HKS.out, hkl.out]
      exact ⟨_, rfl, Base.ownsRow_base HO.out hs1, HT.out, grown_below HBB.out HG.out⟩
end Go.Proofs.Ytidbkkebkgeioaa.TmA
