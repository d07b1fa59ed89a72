import Derived.Test.YtidbkkebkgeioaaGreatTmB
import Derived.WalkLawsBesides
namespace Go.Proofs.YtidbkkebkgeioaaGreat.TmS
open Go.ChangeShapes Go.WideShapes Go.ChangeAt Go.RowKit Go.Shelf MK
open Base (hid cell_new1 cell_old1 froz_new1 froz_old1)
open TmA (below_alloc lt_of_cell turned_block cf orB or_calls cmp_calls swo tot le_cf own_some below_drewN add0 grown_below due_take lk_delAll wrap_small info3 holds_blk grown_srt owns_srt)
attribute [local go_sem] Oper.semAt_some
set_option linter.unusedVariables false
set_option maxRecDepth 100000
/-- A string of one byte: a, b, or c. -/
def sb (x : Int) : ByteArray := if x = 97 then ⟨#[97]⟩ else if x = 98 then ⟨#[98]⟩ else ⟨#[99]⟩
def sl (x : Int) : List UInt8 := if x = 97 then [97] else if x = 98 then [98] else [99]
abbrev B8 (x : Int) : Prop := x = 97 ∨ x = 98 ∨ x = 99
theorem sb_97 : sb 97 = ⟨#[97]⟩ := rfl
theorem sb_98 : sb 98 = ⟨#[98]⟩ := rfl
theorem sb_99 : sb 99 = ⟨#[99]⟩ := rfl
def KS : Keys Tryz.prog 9 { x : Int // B8 x } where
  lit := fun x => .string (sl x.1)
  val := fun x => .string (sb x.1)
  ok := fun _ => True
  K := Go.Maps.string_keyed Tryz.underlying9
  key := fun x _ => by
    obtain ⟨x, rfl | rfl | rfl⟩ := x <;> (simp [keyOf, Tryz.underlying9, sb, sl, mapKey, maxLen]; exact if_pos (by decide))
  inj := fun x y h => by
    obtain ⟨x, rfl | rfl | rfl⟩ := x <;> obtain ⟨y, rfl | rfl | rfl⟩ := y <;> first | rfl | (exfalso; simp [sl] at h)
  isKey := fun _ _ => trivial
def fI (m : Tm.M) : { x : Int // B8 x } → Option Value := fun x => (Tm.look m x.1).map (Value.int .i64)
/-- A table in memory. -/
structure Tab (w : World) (bt b n : Nat) (m : Tm.M) : Prop where
  ptr : w.cell? ⟨bt, 0, none⟩ = some (.map (some b))
  map : MapIs Tryz.prog 9 w KS b n (fI m) m.length
  ok : Tm.Ok m
  wf : ∀ p ∈ m, B8 p.1
theorem Tab.lt {w : World} {bt b n : Nat} {m : Tm.M} (h : Tab w bt b n m) : bt < w.heap.size ∧ b < w.heap.size := ⟨lt_of_cell h.ptr, h.map.lt⟩
theorem Tab.kept {w w' : World} {bt b n : Nat} {m : Tm.M} (h : Tab w bt b n m) (h1 : w'.heap[bt]? = w.heap[bt]?) (h2 : w'.heap[b]? = w.heap[b]?) : Tab w' bt b n m :=
  ⟨(World.cell?_of_block (w := w) (w' := w') (a := ⟨bt, 0, none⟩) h1).trans h.ptr, h.map.block h2, h.ok, h.wf⟩
theorem Tab.below {w w' : World} {bt b n : Nat} {m : Tm.M} (h : Tab w bt b n m) (hb : Below w.heap.size w w') : Tab w' bt b n m := h.kept (hb.block _ h.lt.1) (hb.block _ h.lt.2)
theorem own_calls (w : World) (bt : Nat) (v : Value) (hc : w.cell? ⟨bt, 0, none⟩ = some v) (h1 : ∃ q, v = .map q) :
    Calls Tryz.prog 38 #[.pointer (some ⟨bt, 0, none⟩)] w fun e w' => e = .returned v ∧ w = w' := by
  obtain ⟨q, rfl⟩ := h1
  go_enter Tryz.func38, Tryz.ntmps38
  go_wp2
  go_ret
  exact ⟨rfl, rfl⟩
theorem Tab.ne {w : World} {bt b n : Nat} {m : Tm.M} (h : Tab w bt b n m) : bt ≠ b := by
  rintro rfl
  obtain ⟨D, ⟨es, clock, hb, _⟩, _⟩ := h.map
  have := h.ptr
  simp [World.cell?, hb] at this
theorem fI_put (m : Tm.M) (x : { x : Int // B8 x }) (v : Int) (y : { x : Int // B8 x }) : upd (fI m) x (some (.int .i64 v)) y = fI (Tm.put m x.1 v) y := by
  unfold upd fI
  rw [Tm.look_put]
  by_cases h : y = x
  · rw [if_pos h, if_pos (by rw [h])]; rfl
  · rw [if_neg h, if_neg (fun e => h (Subtype.ext e))]
theorem fI_del (m : Tm.M) (x y : { x : Int // B8 x }) : upd (fI m) x none y = fI (Tm.del m x.1) y := by
  unfold upd fI
  rw [Tm.look_del]
  by_cases h : y = x
  · rw [if_pos h, if_pos (by rw [h])]; rfl
  · rw [if_neg h, if_neg (fun e => h (Subtype.ext e))]
/-- A tick is given. -/
theorem Tab.store {w : World} {bt b n : Nat} {m : Tm.M} (h : Tab w bt b n m) (x v : Int) (hx : B8 x) (hv : 0 ≤ v ∧ v ≤ 4611686018427387904) (hn : n < 1000000) :
    ∃ w', (Instr.mapUpdate 77 (.map (some b)) (.string (sb x)) (.int .i64 v)).run Tryz.prog w = .ok () w' ∧ Tab w' bt b (n + 1) (Tm.put m x v) ∧ w.mapTurned w' b := by
  obtain ⟨w1, hrun, hm, ht⟩ := h.map.store Tryz.underlying77 (by unfold maxLen; omega) ⟨x, hx⟩ trivial (.int .i64 v)
  refine ⟨w1, hrun, ⟨?_, ?_, Tm.put_ok h.ok x v, fun p hp => ?_⟩, ht⟩
  · exact (World.cell?_of_block (w := w) (a := ⟨bt, 0, none⟩) (turned_block ht bt h.lt.1 h.ne)).trans h.ptr
  · have := hm.ext (g := fI (Tm.put m x v)) fun y _ => fI_put m ⟨x, hx⟩ v y
    rw [show (fI m ⟨x, hx⟩).isSome = (Tm.look m x).isSome by unfold fI; cases Tm.look m x <;> rfl] at this
    rwa [Tm.length_put h.ok]
  · rcases Tm.ins_mem hp with rfl | hp
    · exact hx
    · exact h.wf p ((List.mem_filter.1 hp).1)
theorem Tab.drop {w : World} {bt b n : Nat} {m : Tm.M} (h : Tab w bt b n m) (x : Int) (hx : B8 x) (ty : TypeId) :
    ∃ w', (Builtin.delete_ #[77, 9] ty #[.map (some b), .string (sb x)]).run Tryz.prog w = .ok (.tuple #[]) w' ∧ Tab w' bt b n (Tm.del m x) ∧ w.mapTurned w' b := by
  obtain ⟨w1, hrun, hm, ht⟩ := h.map.drop Tryz.underlying77 ⟨x, hx⟩ trivial ty
  refine ⟨w1, hrun, ⟨?_, ?_, Tm.del_ok h.ok x, fun p hp => h.wf p ((List.mem_filter.1 hp).1)⟩, ht⟩
  · exact (World.cell?_of_block (w := w) (a := ⟨bt, 0, none⟩) (turned_block ht bt h.lt.1 h.ne)).trans h.ptr
  · have := hm.ext (g := fI (Tm.del m x)) fun y _ => fI_del m ⟨x, hx⟩ y
    rw [show (fI m ⟨x, hx⟩).isSome = (Tm.look m x).isSome by unfold fI; cases Tm.look m x <;> rfl] at this
    have hl := Tm.length_del h.ok x
    have e : (Tm.del m x).length = if (Tm.look m x).isSome = true then m.length - 1 else m.length := by
      split
      · rename_i hs
        rw [if_pos hs] at hl
        omega
      · rename_i hs
        rw [if_neg hs] at hl
        omega
    rwa [e]
theorem len_calls (w : World) (bt b n : Nat) (m : Tm.M) (h : Tab w bt b n m) : Calls Tryz.prog 23 #[.pointer (some ⟨bt, 0, none⟩)] w fun e w' => e = .returned (.int .i64 (m.length : Nat)) ∧ w = w' := by
  have hl : ∀ ty, (Builtin.len_ #[77] ty #[.map (some b)]).run Tryz.prog w = .ok (.int .i64 (m.length : Nat)) w := fun ty => h.map.len Tryz.underlying77 ty
  have hp := h.ptr
  go_enter Tryz.func23, Tryz.ntmps23
  go_wp2_with (go_at_call 38; refine (own_calls w bt _ hp ⟨_, rfl⟩).mono ?_; rintro e w' ⟨rfl, rfl⟩)
  go_ret
  exact ⟨rfl, rfl⟩
theorem new_calls (w : World) : Calls Tryz.prog 20 #[] w fun e w' => ∃ bt b, e = .returned (.pointer (some ⟨bt, 0, none⟩)) ∧ Tab w' bt b 0 [] ∧ w.heap.size ≤ bt ∧ w.heap.size ≤ b ∧ Below w.heap.size w w' := by
  have hmm := @run_makeMap Tryz.prog
  go_enter Tryz.func20, Tryz.ntmps20
  go_wp2
  go_ret
  refine ⟨w.heap.size + 1, w.heap.size, rfl, ⟨?_, ?_, List.Pairwise.nil, fun p hp => by simp at hp⟩, by omega, Nat.le_refl _, ((Below.refl _ w).alloc (Nat.le_refl _) _).alloc (by simp) _⟩
  · rw [cell_new1 _ _ _ _ (by simp)]
    rfl
  · exact (MapIs.made w KS).below (below_alloc (Below.refl _ _) _)
theorem set_ok (w : World) (bt b n : Nat) (m : Tm.M) (x v : Int) (h : Tab w bt b n m) (hx : B8 x) (hn : n < 1000000) (hv : 0 ≤ v ∧ v ≤ 4611686018427387904) :
    Calls Tryz.prog 21 #[.pointer (some ⟨bt, 0, none⟩), .string (sb x), .int .i64 v] w fun e w' => e = .returned .nilIface ∧ Tab w' bt b (n + 1) (Tm.put m x v) ∧ w.mapTurned w' b := by
  have hp := h.ptr
  have d1 : decide (v < 0) = false := by simp; omega
  have d2 : decide (4611686018427387904 < v) = false := by simp; omega
  obtain ⟨w1, hrun, hT, ht⟩ := h.store x v hx hv hn
  have HT := hid hT
  have HTT := hid ht
  clear hT ht hv
  go_enter Tryz.func21, Tryz.ntmps21
  go_wp2
  go_ret
  exact ⟨rfl, HT.out, HTT.out⟩
theorem nan_calls (s : ByteArray) (w : World) : Calls Tryz.prog 60 #[.string s] w fun e w' => e = .returned (.bool false) ∧ w = w' := by
  go_enter Tryz.func60, Tryz.ntmps60
  go_wp2
  go_ret
  exact ⟨by simp, rfl⟩
theorem cmpS_calls (x y : Int) (hx : B8 x) (hy : B8 y) (w : World) : Calls Tryz.prog 51 #[.string (sb x), .string (sb y)] w fun e w' => e = .returned (.int .i64 (Lib.compareInt x y)) ∧ w = w' := by
  rcases hx with rfl | rfl | rfl <;> rcases hy with rfl | rfl | rfl
  all_goals
    simp only [sb_97, sb_98, sb_99]
    go_enter Tryz.func51, Tryz.ntmps51
    go_wp2_with (go_at_call 60; refine (nan_calls _ _).mono ?_; rintro e w' ⟨rfl, rfl⟩)
    go_ret
    exact ⟨by simp [Lib.compareInt], rfl⟩
theorem fI_get (m : Tm.M) (x : { x : Int // B8 x }) : (fI m x).getD (.int .i64 0) = .int .i64 (Tm.lk m x.1) := by
  unfold fI Tm.lk
  cases Tm.look m x.1 <;> rfl
theorem closure_calls (w : World) (bv b n : Nat) (m : Tm.M) (x y : Int) (hv : w.cell? ⟨bv, 0, none⟩ = some (.map (some b))) (hm : MapIs Tryz.prog 9 w KS b n (fI m) m.length) (hx : B8 x) (hy : B8 y) :
    Calls Tryz.prog 50 #[.string (sb x), .string (sb y), .pointer (some ⟨bv, 0, none⟩)] w fun e w' => e = .returned (.int .i64 (cf m x y)) ∧ ∃ o, w' = w.alloc o := by
  have l1 : (Instr.lookup 77 (.map (some b)) (.string (sb x)) false).run Tryz.prog w = .ok (.int .i64 (Tm.lk m x)) w := by
    have := hm.lookup Tryz.underlying77 (Tryz.zeroValue3 w) ⟨x, hx⟩ trivial
    rwa [fI_get] at this
  have l2 : (Instr.lookup 77 (.map (some b)) (.string (sb y)) false).run Tryz.prog w = .ok (.int .i64 (Tm.lk m y)) w := by
    have := hm.lookup Tryz.underlying77 (Tryz.zeroValue3 w) ⟨y, hy⟩ trivial
    rwa [fI_get] at this
  have hc := cmpS_calls x y hx hy
  unfold cf
  generalize Tm.lk m x = u at *
  generalize Tm.lk m y = v at *
  obtain ⟨sx, hsx⟩ : ∃ sx, sb x = sx := ⟨_, rfl⟩
  obtain ⟨sy, hsy⟩ : ∃ sy, sb y = sy := ⟨_, rfl⟩
  rw [hsx] at l1 hc ⊢
  rw [hsy] at l2 hc ⊢
  generalize Lib.compareInt x y = r at *
  have HC := hid hc
  clear hc hsx hsy hx hy
  go_enter Tryz.func50, Tryz.ntmps50
  go_wp2_with (first | (go_at_call 47; refine (cmp_calls _ _ _).mono ?_; rintro e w' ⟨rfl, rfl⟩) | (go_at_call 51; refine (HC.out _).mono ?_; rintro e w' ⟨rfl, rfl⟩) | (go_at_call 46; refine (or_calls _ _ _).mono ?_; rintro e w' ⟨rfl, rfl⟩))
  go_ret
  exact ⟨rfl, _, rfl⟩
def encS (x : Int) : Value := .string (sb x)
abbrev K8 := { x : Int // B8 x }
instance : Inhabited K8 := ⟨⟨97, .inl rfl⟩⟩
def encK (x : K8) : Value := encS x.1
theorem sort_map (m : Tm.M) (l : List K8) : (l.mergeSort fun x y => !ltOf (fun a b : K8 => cf m a.1 b.1) y x).map (·.1) = (l.map (·.1)).mergeSort (Tm.le m) := by
  rw [List.map_mergeSort (s := Tm.le m)]
  intro a _ b _
  exact congrFun (congrFun (le_cf m) a.1) b.1
/-- slices.SortFunc of keys by their ticks. -/
theorem sortFunc_calls (w : World) (bv b n : Nat) (m : Tm.M) (base : Nat) (v : Value) (ss : List Int) (hw : ∀ x ∈ ss, B8 x) (hv : w.cell? ⟨bv, 0, none⟩ = some (.map (some b))) (hm : MapIs Tryz.prog 9 w KS b n (fI m) m.length)
    (hr : w.ownsRow base 9 1 v ss.length (ss.map encS)) (hbv : ∀ g, v.ownBlock = some g → g ≠ bv ∧ g ≠ b) (hl : ss.length ≤ 1000000) :
    Calls Tryz.prog 58 #[v, .func (.func 50) #[] #[.pointer (some ⟨bv, 0, none⟩)]] w fun e w' => e = .returned (.tuple #[]) ∧ w'.ownsRow base 9 1 v ss.length ((ss.mergeSort (Tm.le m)).map encS) ∧ w.grownBy w' v.ownBlock := by
  rcases hr.2 with ⟨rfl, hz⟩ | ⟨g, cap, cur, rfl, hbase, hg, r1, r2, r3, r4⟩
  · have hss : ss = [] := List.eq_nil_of_length_eq_zero hz
    subst hss
    have h := AnyF.slices_SortFunc_none (P := Tryz.prog) (ρ := Tryz.sortS_ren) { Tryz.sortS with } none 0 (.func (.func 50) #[] #[.pointer (some ⟨bv, 0, none⟩)]) w
    change Calls Tryz.prog 58 _ _ _ at h
    refine h.mono ?_
    rintro e w' ⟨rfl, rfl⟩
    exact ⟨rfl, by simpa using hr, World.grownBy.refl _ _⟩
  · obtain ⟨ks, hks⟩ : ∃ ks : List K8, ks.map (·.1) = ss := ⟨ss.attachWith _ hw, by simp⟩
    have hkl : ks.length = ss.length := by rw [← hks, List.length_map]
    have hmap : ss.map encS = ks.map encK := by rw [← hks, List.map_map]; rfl
    have hgl : g < w.heap.size := (Array.getElem?_eq_some_iff.1 hg).1
    have hne := hbv g rfl
    have hH : Go.Sort.Holds encK w g 0 ks.toArray := holds_blk encK hg (by rw [hkl, ← hmap]; simpa using r4)
    have eg : ∀ args w, (callFunc 50 args).run Tryz.prog w = .ok (.enter 50 args) w := enters_of Tryz.func50 (by kernel_rfl) rfl
    have hcmp : CmpLays1 Tryz.prog 50 #[.pointer (some ⟨bv, 0, none⟩)] encK (fun a b : K8 => cf m a.1 b.1) g 0 ks.toArray.size w := by
      intro q os dk hs x y
      have hg1 : w.grownBy (sortWorld encK w g 0 q dk os) (some g) := grown_srt encK dk
      refine (closure_calls (sortWorld encK w g 0 q dk os) bv b n m x.1 y.1 ?_ ?_ x.2 y.2).mono ?_
      · exact (World.cell?_of_block (w := w) (a := ⟨bv, 0, none⟩) (hg1.block bv (lt_of_cell hv) (fun e => hne.1 (by cases e; rfl)))).trans hv
      · exact hm.block (hg1.block b hm.lt (fun e => hne.2 (by cases e; rfl)))
      · rintro e w' ⟨rfl, o, rfl⟩
        exact ⟨rfl, 0, #[o], by rw [Go.Sort.alloc_eq_grow]; rfl⟩
    have h := Any.slices_SortFunc_total Tryz.sortS encK (fun _ => rfl) (fun a b : K8 => cf m a.1 b.1) ⟨fun x => (swo m).irrefl x.1, fun x y z => (swo m).trans x.1 y.1 z.1, fun x y z => (swo m).ntrans x.1 y.1 z.1⟩ 50 #[.pointer (some ⟨bv, 0, none⟩)] g 0 cap ks.toArray w eg hcmp hH hgl (by simp; omega) (fun x y h1 h2 => Subtype.ext (tot m x.1 y.1 h1 h2))
    change Calls Tryz.prog 58 _ _ _ at h
    rw [show ks.toArray.size = ss.length by simpa using hkl] at h
    refine h.mono ?_
    rintro e w' ⟨rfl, q, os, rfl⟩
    refine ⟨rfl, ?_, grown_srt encK _⟩
    have := owns_srt encK (w := w) (n := q) (os := os) (ts := ks.mergeSort fun x y => !ltOf (fun a b : K8 => cf m a.1 b.1) y x) (k := ss.length) (by rw [List.length_mergeSort, hkl]) hbase hg r1 r2 r3
    rw [show (ks.mergeSort fun x y => !ltOf (fun a b : K8 => cf m a.1 b.1) y x).map encK = ((ks.mergeSort fun x y => !ltOf (fun a b : K8 => cf m a.1 b.1) y x).map (·.1)).map encS by rw [List.map_map]; rfl, sort_map, hks] at this
    exact this
theorem info9 : (Tryz.prog.info? 9).map (fun i => (i.zero, i.size, i.bytes)) = some (some (.string ⟨#[]⟩), 1, 16) := by kernel_rfl
theorem encS_eq (x : Int) (h : B8 x) : encStr (sl x) = encS x := by
  rcases h with rfl | rfl | rfl <;> rfl
/-- No one twice, all of them there, as many: a permutation. -/
theorem perm_of_subset {α : Type} [BEq α] [LawfulBEq α] : ∀ (l1 l2 : List α), l1.Nodup → (∀ x ∈ l1, x ∈ l2) → l1.length = l2.length → l1.Perm l2
  | [], l2, _, _, h => by
    rw [List.eq_nil_of_length_eq_zero (l := l2) (by simpa using h.symm)]
  | x :: l1, l2, hn, hs, hl => by
    have hx := hs x List.mem_cons_self
    have hc := List.nodup_cons.1 hn
    have h1 := perm_of_subset l1 (l2.erase x) hc.2 (fun y hy => (List.mem_erase_of_ne (by rintro rfl; exact hc.1 hy)).2 (hs y (List.mem_cons_of_mem _ hy))) (by
      rw [List.length_erase_of_mem hx]
      simp at hl
      omega)
    exact (h1.cons x).trans (List.perm_cons_erase hx).symm
def dec (s : List UInt8) : Int := if s = [97] then 97 else if s = [98] then 98 else 99
theorem dec_sl (x : Int) (h : B8 x) : dec (sl x) = x := by
  rcases h with rfl | rfl | rfl <;> rfl
theorem keysS_perm {w : World} {b n : Nat} {D : DataW Value} (m : Tm.M) (hok : Tm.Ok m) (hwf : ∀ p ∈ m, B8 p.1) (ho : w.ownsMap Tryz.prog 9 heldE b n D) (h2 : ∀ x, KS.ok x → Maps.has D (KS.lit x) = (fI m x).isSome) (h4 : Maps.size D = m.length) (ss : List (List UInt8)) (hs : ss.Perm (strKeys D)) :
    ∃ ks : List Int, ks.map sl = ss ∧ ks.Perm (m.map (·.1)) := by
  have hkeys : ((m.map (·.1)).map sl).Perm (strKeys D) := by
    have hnd : ((m.map (·.1)).map sl).Nodup := by
      rw [List.nodup_iff_pairwise_ne]
      refine List.pairwise_map.2 ((List.nodup_iff_pairwise_ne.1 (Tm.keys_nodup hok)).imp_of_mem fun {x y} hx hy hne e => hne ?_)
      obtain ⟨p, hp, rfl⟩ := List.mem_map.1 hx
      obtain ⟨q, hq, rfl⟩ := List.mem_map.1 hy
      rw [← dec_sl _ (hwf p hp), ← dec_sl _ (hwf q hq), e]
    refine perm_of_subset _ _ hnd (fun s hs => ?_) ?_
    · obtain ⟨x, hx, rfl⟩ := List.mem_map.1 hs
      obtain ⟨p, hp, rfl⟩ := List.mem_map.1 hx
      have hh := h2 ⟨p.1, hwf p hp⟩ trivial
      have hl : (fI m ⟨p.1, hwf p hp⟩).isSome = true := by
        unfold fI
        rw [Option.isSome_map]
        exact Tm.look_isSome.2 hx
      rw [hl] at hh
      obtain ⟨es, rfl, hko⟩ := ho.keysOf
      have hh : Maps.has (.map es) (.string (sl p.1)) = true := hh
      rw [Maps.has_eq, List.any_eq_true] at hh
      obtain ⟨q, hq, hsk⟩ := hh
      obtain ⟨v, hv⟩ := hko q hq
      obtain ⟨y, _, hy, _⟩ := Maps.keyOf_str Tryz.underlying9 hv
      rw [hy] at hsk
      have hyx : y = sl p.1 := by simpa [Lit.sameKey] using hsk
      exact List.mem_map.2 ⟨q, hq, by rw [hy, hyx]; rfl⟩
    · rw [List.length_map, List.length_map, ← h4]
      obtain ⟨es, rfl, hko⟩ := ho.keysOf
      show es.length = (es.map _).length
      rw [List.length_map]
  have hp := hs.trans hkeys.symm
  refine ⟨ss.map dec, ?_, ?_⟩
  · rw [List.map_map]
    conv => rhs; rw [← List.map_id ss]
    refine List.map_congr_left fun s hs' => ?_
    obtain ⟨x, hx, rfl⟩ := List.mem_map.1 ((hp.mem_iff).1 hs')
    obtain ⟨p, hp', rfl⟩ := List.mem_map.1 hx
    show sl (dec (sl p.1)) = sl p.1
    rw [dec_sl _ (hwf p hp')]
  · have := hp.map dec
    rw [List.map_map] at this
    refine this.trans (List.Perm.of_eq ?_)
    conv => rhs; rw [← List.map_id (m.map (·.1))]
    refine List.map_congr_left fun x hx => ?_
    obtain ⟨p, hp', rfl⟩ := List.mem_map.1 hx
    exact dec_sl _ (hwf p hp')
/-- slices.SortedFunc(maps.Keys(..), ..). -/
theorem sortedFunc_calls (w : World) (bk bv b n : Nat) (m : Tm.M) (hok : Tm.Ok m) (hwf : ∀ p ∈ m, B8 p.1) (hk : w.cell? ⟨bk, 0, none⟩ = some (.map (some b))) (hv : w.cell? ⟨bv, 0, none⟩ = some (.map (some b))) (hm : MapIs Tryz.prog 9 w KS b n (fI m) m.length) (hl : m.length ≤ 1000000) :
    Calls Tryz.prog 48 #[.func (.func 59) #[] #[.pointer (some ⟨bk, 0, none⟩)], .func (.func 50) #[] #[.pointer (some ⟨bv, 0, none⟩)]] w fun e w' => ∃ v, e = .returned v ∧ w'.ownsRow w.heap.size 9 1 v (Tm.order m).length ((Tm.order m).map encS) ∧ Below w.heap.size w w' := by
  refine (callsIn_wide (n := 6)).1 ?_
  obtain ⟨D, ho, h2, h3, h4⟩ := hm
  have hbk := lt_of_cell hk
  have hbv := lt_of_cell hv
  have hbl := ho.lt
  have hseq : SeqGives Fence.wide 3 Tryz.prog 59 #[.pointer (some ⟨bk, 0, none⟩)] encStr (fun ss => ss.Perm (strKeys D)) (Maps.size D) w :=
    AnyZ.keys_gives (ρ := Tryz.keysS_ren) { Tryz.keysS with } Fence.wide _ trivial rfl (by omega) bk b n D w hbk hk ho
  have hC := AnyZ.collect_in Tryz.colS Fence.wide 5 trivial trivial rfl (by omega) 59 #[.pointer (some ⟨bk, 0, none⟩)] trivial (enters_of Tryz.func59 (by kernel_rfl) rfl) _ (Maps.size D) (by rw [h4]; unfold maxLen; omega) (by rw [h4]; omega) w hseq
  change CallsIn _ _ Tryz.prog 57 _ _ _ at hC
  have hperm : ∀ ss : List (List UInt8), ss.Perm (strKeys D) → ∃ ks : List Int, ks.map sl = ss ∧ ks.Perm (m.map (·.1)) := fun ss hs =>
    keysS_perm m hok hwf ho h2 h4 ss hs
  have HC := hid hC
  have HP := hid hperm
  have HM := hid (show MapIs Tryz.prog 9 w KS b n (fI m) m.length from ⟨D, ho, h2, h3, h4⟩)
  have HW := hid hwf
  have f78 : Fence.wide.fn 57 := trivial
  have f79 : Fence.wide.fn 58 := trivial
  clear hseq hC hperm ho h2 h3 h4 hwf hk
  refine callsIn_of_wp Tryz.func48 rfl trivial ?_ rfl
  simp only [Tryz.ntmps48, List.size_toArray, List.length_cons, List.length_nil, Nat.reduceAdd, Nat.reduceSub, Array.replicate_succ, Array.replicate_zero, List.push_toArray, List.append_toArray, List.nil_append, List.cons_append]
  refine wpIn_wide.2 ?_
  go_wp2_with (go_at_call 57; refine (callsIn_wide.1 HC.out).mono ?_; rintro e w1 ⟨v, ss0, rfl, hS, hrow, hnil, hb⟩; have HS := hid hS; have HROW := hid hrow; have HB := hid hb; clear hS hrow hnil hb)
  obtain ⟨ss, hks, hp⟩ := HP.out ss0 HS.out
  have hB : ∀ x ∈ ss, B8 x := fun x hx => by
    obtain ⟨p, hp, rfl⟩ := List.mem_map.1 ((hp.mem_iff).1 hx)
    exact HW.out p hp
  have hrow0 : w1.ownsRow w.heap.size 9 1 v ss.length (ss.map encS) := by
    have := HROW.out
    rw [← hks, List.length_map, List.map_map] at this
    rwa [show ss.map (encStr ∘ sl) = ss.map encS from List.map_congr_left fun x hx => encS_eq x (hB x hx)] at this
  have HROW := hid hrow0
  clear hrow0
  have hsl : ss.length = m.length := by rw [hp.length_eq, List.length_map]
  have hsort := sortFunc_calls w1 bv b n m w.heap.size v ss (fun x hx => by
      have := (hp.mem_iff).1 hx
      obtain ⟨p, hp, rfl⟩ := List.mem_map.1 this
      exact HW.out p hp) ((HB.out.cell (p := ⟨bv, 0, none⟩) hbv).trans hv) (HM.out.block (HB.out.block b hbl)) HROW.out (fun g hg => by
      rcases HROW.out.2 with ⟨rfl, _⟩ | ⟨g', cap, cur, rfl, hb', _⟩
      · simp [Value.ownBlock] at hg
      · simp [Value.ownBlock] at hg
        omega) (by omega)
  have HSO := hid hsort
  have hord := Tm.order_of_perm m ss hp
  have HO := hid hord
  have HSL := hid hsl
  clear hsort hord hp hsl hv hok hks hB
  go_wp2_with (go_at_call 58; refine HSO.out.mono ?_; rintro e w2 ⟨rfl, hrow2, hg2⟩; have HR2 := hid hrow2; have HG2 := hid hg2; clear hrow2 hg2)
  go_ret
  have hr := HR2.out
  rw [HO.out] at hr
  refine ⟨v, rfl, ?_, HB.out.grown HG2.out HB.out.size (fun g hg => ?_)⟩
  · rw [Tm.order_len, ← HSL.out]
    exact hr
  · rcases HROW.out.2 with ⟨rfl, _⟩ | ⟨g', cap, cur, rfl, hb', _⟩
    · simp [Value.ownBlock] at hg
    · simp [Value.ownBlock] at hg
      omega
/-- (*Table).byTick. -/
theorem byTick_calls (w : World) (bt b n : Nat) (m : Tm.M) (h : Tab w bt b n m) (hl : m.length ≤ 1000000) :
    Calls Tryz.prog 37 #[.pointer (some ⟨bt, 0, none⟩)] w fun e w' => ∃ v, e = .returned v ∧ w'.ownsRow w.heap.size 9 1 v (Tm.order m).length ((Tm.order m).map encS) ∧ Below w.heap.size w w' := by
  have hp := h.ptr
  have hb := h.lt
  obtain ⟨w2, hw2⟩ : ∃ w2, w2 = (w.alloc (.cells #[.map (some b)] 77)).alloc (.cells #[.map (some b)] 77) := ⟨_, rfl⟩
  have hb2 : Below w.heap.size w w2 := by rw [hw2]; exact below_alloc (below_alloc (Below.refl _ _) _) _
  have hS := sortedFunc_calls w2 (w.heap.size + 1) w.heap.size b n m h.ok (fun p hp => h.wf p hp) (by rw [hw2, cell_new1 _ _ _ _ (by simp)]; rfl) (by rw [hw2, cell_old1 _ _ _ (by simp), cell_new1 _ _ _ _ rfl]; rfl) (h.map.below hb2) hl
  have hK : ∀ W, Calls Tryz.prog 49 #[.map (some b)] W fun e w' => e = .returned (.func (.func 59) #[] #[.pointer (some ⟨W.heap.size, 0, none⟩)]) ∧ w' = W.alloc (.cells #[.map (some b)] 77) := fun W => callsIn_wide.1 (AnyZ.keys_in Tryz.keysS Fence.wide 5 trivial rfl (some b) W)
  have HS := hid hS
  have HK := hid hK
  have HB2 := hid hb2
  have HW2 := hid hw2
  clear hS hK hb2 hw2 h
  go_enter Tryz.func37, Tryz.ntmps37
  go_wp2_with (first
    | (go_at_call 38; refine (own_calls w bt _ hp ⟨_, rfl⟩).mono ?_; rintro e w' ⟨rfl, rfl⟩)
    | (go_at_call 49; refine (HK.out _).mono ?_; rintro e w' ⟨rfl, rfl⟩)
    | (go_at_call 48; rw [← HW2.out]; refine HS.out.mono ?_; rintro e w3 ⟨v, rfl, hr, hb3⟩; have HR := hid hr; have HB3 := hid hb3; clear hr hb3))
  go_ret
  exact ⟨v, rfl, Base.ownsRow_base HR.out HB2.out.size, HB2.out.trans (HB3.out.mono HB2.out.size)⟩
theorem order_B8 {w : World} {bt b n : Nat} {m : Tm.M} (h : Tab w bt b n m) : ∀ k ∈ Tm.order m, B8 k := by
  intro k hk
  have := Tm.look_isSome.1 (Tm.order_mem.1 hk)
  obtain ⟨p, hp, rfl⟩ := List.mem_map.1 this
  exact h.wf p hp
set_option maxRecDepth 100000 in
set_option maxHeartbeats 4000000 in
theorem due_calls (w : World) (bt b n : Nat) (m : Tm.M) (now : Int) (h : Tab w bt b n m) (hl : m.length ≤ 1000000) :
    Calls Tryz.prog 22 #[.pointer (some ⟨bt, 0, none⟩), .int .i64 now] w fun e w' => ∃ v, e = .returned v ∧ w'.ownsRow w.heap.size 9 1 v (Tm.due m now).length ((Tm.due m now).map encS) ∧ Tab w' bt b n (Tm.rest m now) ∧ w.grownBy w' (some b) := by
  obtain ⟨i0, hi, hi0, hi1, hi2⟩ := info_parts info9
  have hB := byTick_calls w bt b n m h hl
  have hI := order_B8 h
  have hnd := Tm.order_nodup h.ok
  have hol := Tm.order_len m
  have hdt := due_take m now
  unfold Tm.rest
  obtain ⟨os, hos⟩ : ∃ os, Tm.order m = os := ⟨_, rfl⟩
  rw [hos] at hB hI hnd hol hdt
  have hosl : os.length ≤ 1000000 := by omega
  have HB := hid hB
  have H := hid h
  have HI := hid hI
  have HND := hid hnd
  have HDT := hid hdt
  have hlt0 := h.lt
  have hbt0 := hlt0.1
  have hb0 := hlt0.2
  clear hB h hI hnd hdt hos hol hlt0
  go_enter Tryz.func22, Tryz.ntmps22
  go_wp2_with (go_at_call 37; refine HB.out.mono ?_; rintro e w1 ⟨v, rfl, hr, hb⟩; obtain ⟨A, c, rfl, hc⟩ := Base.slice_of_row hr; have HR := hid hr; have HBB := hid hb; clear hr hb)
  have hs1 := HBB.out.size
  go_loopw [5, 11] (fun v5 v11 wr => ∃ (i : Nat) (ks : List Int), i ≤ os.length ∧ v11 = .int .i64 i ∧ Hid (ks = os.take i) ∧ Hid (∀ j (h : j < os.length), j < i → Tm.lk m os[j] ≤ now) ∧ Hid (wr.ownsRow w1.heap.size 9 1 v5 i (ks.map encS)) ∧ Hid (Tab wr bt b n (Tm.delAll m ks)) ∧ Hid (w1.grownBy wr (some b))) (fun _ v11 _ => os.length - (intOf v11).toNat)
  case atStart => exact ⟨0, [], Nat.zero_le _, rfl, hid rfl, hid (fun j _ h => by omega), hid (World.ownsRow_nil _ _ _ _), hid (H.out.below HBB.out), hid (World.grownBy.refl _ _)⟩
  case round =>
    obtain ⟨i, ks, hio, rfl, HKS, HJ, HO, HT, HG⟩ := hrel
    have hkl : Hid (ks.length = i) := hid (by rw [HKS.out, List.length_take]; omega)
    have hbr : b < wr.heap.size := HT.out.lt.2
    have hbtr : bt < wr.heap.size := HT.out.lt.1
    have hsr := HG.out.size
    by_cases hlt : i < os.length
    · have hIi : B8 os[i] := HI.out _ (List.getElem_mem hlt)
      have hnin : os[i] ∉ ks := by
        rw [HKS.out]
        intro hm
        obtain ⟨j, hj, e⟩ := List.mem_iff_getElem.1 hm
        rw [List.length_take] at hj
        rw [List.getElem_take] at e
        exact (List.pairwise_iff_getElem.1 (List.nodup_iff_pairwise_ne.1 HND.out)) j i (by omega) hlt (by omega) e
      have htk : os.take (i + 1) = ks ++ [os[i]] := by rw [HKS.out]; exact List.take_succ_eq_append_getElem hlt
      have hlk : (Instr.lookup 77 (.map (some b)) (.string (sb os[i])) false).run Tryz.prog wr = .ok (.int .i64 (Tm.lk m os[i])) wr := by
        have := HT.out.map.lookup Tryz.underlying77 (Tryz.zeroValue3 wr) ⟨os[i], hIi⟩ trivial
        rw [fI_get, lk_delAll hnin] at this
        exact this
      obtain ⟨g, rfl, hgb⟩ : ∃ g, A = some ⟨g, 0, none⟩ ∧ g < w1.heap.size ∧ w.heap.size ≤ g := by
        rcases HR.out.2 with ⟨e, h0⟩ | ⟨g, cap, cur, e, hb', hgg, _⟩
        · omega
        · cases e
          exact ⟨g, rfl, (Array.getElem?_eq_some_iff.1 hgg).1, hb'⟩
      have hgne : g ≠ b := by omega
      have hcell : wr.cell? ⟨g, i, none⟩ = some (.string (sb os[i])) := by
        have h1 := HR.out.cells (g := g) rfl i (.string (sb os[i])) (by simp [hlt, encS])
        rw [add0] at h1
        exact (World.cell?_of_block (w := w1) (a := ⟨g, i, none⟩) (HG.out.block g hgb.1 (fun e => hgne (by cases e; rfl)))).trans h1
      have hp := HT.out.ptr
      have HIi := hid hIi
      have HTK := hid htk
      have HN := hid hnin
      have hLK : ∀ h : i < os.length, Tm.lk m os[i] = Tm.lk m os[i] := fun _ => rfl
      obtain ⟨u, hu⟩ : ∃ u, Tm.lk m os[i] = u := ⟨_, rfl⟩
      obtain ⟨kk, hkk⟩ : ∃ kk, os[i] = kk := ⟨_, rfl⟩
      rw [hu] at hlk
      rw [hkk] at hlk hcell HIi HTK HN
      have HU := hid hu
      have HKK := hid hkk
      clear hIi hnin htk hLK hu hkk
      by_cases hgt : now < u
      · have hd : decide (now < u) = true := by simpa using hgt
        have hdue := HDT.out i hio HJ.out (fun h => by rw [HU.out]; exact hgt)
        have HDUE := hid hdue
        clear hdue
        go_wp2
        go_ret
        rw [HDUE.out, ← HKS.out, hkl.out]
        exact ⟨_, rfl, Base.ownsRow_base HO.out hs1, HT.out, grown_below HBB.out HG.out⟩
      · have hd : decide (now < u) = false := by simpa using hgt
        have HW : Hid (w1.heap.size ≤ wr.heap.size) := hid hsr
        go_wp2_with (at_builtin; go_must (refine wpList_append_own_at _ rfl _ _ 51 rfl w1.heap.size 9 i0 (.string ⟨#[]⟩) 1 16 Tryz.underlying51 hi hi0 hi1 hi2 rfl (by decide) _ _ _ rfl (Base.ownsRow_later HO.out (below_alloc (Below.refl _ _) _)) ⟨wr.heap.size, 0, none⟩ 1 1 [.string (sb kk)] rfl rfl ?news ?one ?c3 ?c4 ?c5 ?_))
        case one => rfl
        case c3 => unfold maxLen; omega
        case c4 => omega
        case c5 => have := HW.out; omega
        intro v6 w2 own2 hg2 _ hat2
        have hsz2 := hg2.size
        simp only [World.size_alloc] at hsz2
        obtain ⟨A6, d6, rfl, _⟩ := Base.slice_of_row own2
        have hu5 : ∀ q, u5.ownBlock = some q → q ≠ bt ∧ q ≠ b ∧ w1.heap.size ≤ q := by
          intro q hq
          rcases HO.out.2 with ⟨rfl, _⟩ | ⟨g', cap, cur, rfl, hb', _⟩
          · simp [Value.ownBlock] at hq
          · simp [Value.ownBlock] at hq
            omega
        have hT2 : Tab w2 bt b n (Tm.delAll m ks) := (HT.out.below (below_alloc (Below.refl _ _) _)).kept (hg2.block bt (by simp; omega) (fun e => (hu5 bt e.symm).1 rfl)) (hg2.block b (by simp; omega) (fun e => (hu5 b e.symm).2.1 rfl))
        obtain ⟨w3, hrun, hT3, ht3⟩ := hT2.drop kk HIi.out 0
        have hp2 := hT2.ptr
        have hG3 : w1.grownBy w3 (some b) := by
          have g1 : w1.grownBy w2 (some b) := by
            refine ⟨hg2.os.trans HG.out.os, hg2.tape.trans HG.out.tape, hg2.output.trans HG.out.output, by omega, fun k h1 h2 => ?_⟩
            rw [hg2.block k (by simp; omega) (fun e => by have := (hu5 k e.symm).2.2; omega), Below.heap_alloc _ _ _ (by omega)]
            exact HG.out.block k h1 h2
          have g2 := ht3.grown
          exact ⟨g2.os.trans g1.os, g2.tape.trans g1.tape, g2.output.trans g1.output, Nat.le_trans g1.size g2.size, fun k h1 h2 => (g2.block k (Nat.lt_of_lt_of_le h1 g1.size) h2).trans (g1.block k h1 h2)⟩
        have own3 : w3.ownsRow w1.heap.size 9 1 (.slice A6 (i + 1) d6) (i + 1) ((ks ++ [kk]).map encS) := by
          rw [List.map_append, List.map_cons, List.map_nil]
          exact own2.kept ht3.grown (.inr fun e => by
            obtain ⟨D, ⟨es, clock, hbm, _⟩, _⟩ := hT2.map
            rcases own2.2 with ⟨e', _⟩ | ⟨g', cap, cur, e', hb', hgg, _⟩
            · rw [e'] at e
              simp [Value.ownBlock] at e
            · rw [e'] at e
              simp [Value.ownBlock] at e
              subst e
              rw [hbm] at hgg
              cases hgg)
        have O3 := hid own3
        have T3 := hid hT3
        have G3 := hid hG3
        clear own2 hg2 hat2 hT2 hT3 ht3 hG3 own3 hu5 hsz2
        go_wp2
        go_roundw
        case rel =>
          refine ⟨i + 1, ks ++ [kk], by omega, by go_num, hid HTK.out.symm, hid (fun j hj hji => ?_), O3, hid (by rw [Tm.delAll_snoc]; exact T3.out), G3⟩
          rcases Nat.lt_or_ge j i with h | h
          · exact HJ.out j hj h
          · obtain rfl : j = i := by omega
            rw [HU.out]
            omega
        case measure => simp [intOf]; omega
    · obtain rfl : i = os.length := by omega
      have hdue := HDT.out os.length hio HJ.out (fun h => by omega)
      have HDUE := hid hdue
      clear hdue
      go_wp2
      go_ret
      rw [HDUE.out, ← HKS.out, hkl.out]
      exact ⟨_, rfl, Base.ownsRow_base HO.out hs1, HT.out, grown_below HBB.out HG.out⟩
end Go.Proofs.YtidbkkebkgeioaaGreat.TmS
