import Derived.Test.YthoammfpjheodaaOrR
namespace Go.Proofs.Ythoammfpjheodaa.Or
open Go.ChangeShapes Go.WideShapes Go.ChangeAt Go.RowKit Go.Shelf MK Go.Sort
open Base (hid cell_new1 cell_old1 froz_new1 froz_old1)
open Rz (below_alloc lt_of_cell add_block Txt box_at box_new box_old setCells_grown grown_setAt own_low own_base txt_row nil_row clone_calls)
attribute [local go_sem] Oper.semAt_some
set_option linter.unusedVariables false
set_option linter.unusedSimpArgs false
set_option maxRecDepth 100000
/-! sorting the keys -/
/-- A place of a stream that there is. -/
abbrev K8 := { x : Int × Int // (0 ≤ x.1 ∧ x.1 ≤ 7) ∧ 0 ≤ x.2 ∧ x.2 ≤ 65535 }
instance : Inhabited K8 := ⟨⟨(0, 0), by decide⟩⟩
def encK (x : K8) : List Value := [.int .i64 x.1.1, .int .u16 x.1.2]
def cells8 (l : List K8) : List Value := l.flatMap encK
def lessK (nx : List Int) (a b : Int × Int) : Prop := a.1 < b.1 ∨ (a.1 = b.1 ∧ farW nx a.1 a.2 < farW nx b.1 b.2)
def cK (nx : List Int) (a b : K8) : Int := cS nx a.1 b.1
theorem cmp_cases (x y : Int) : (x < y ∧ Lib.compareInt x y = -1) ∨ (x = y ∧ Lib.compareInt x y = 0) ∨ (y < x ∧ Lib.compareInt x y = 1) := by
  unfold Lib.compareInt
  by_cases h1 : x < y
  · simp [h1]
  · by_cases h2 : y < x
    · simp [h1, h2]
    · simp [h1, h2]; omega
theorem ltK (nx : List Int) (a b : K8) : ltOf (cK nx) a b = true ↔ lessK nx a.1 b.1 := by
  unfold ltOf cK cS orI lessK
  rw [decide_eq_true_eq]
  rcases cmp_cases a.1.1 b.1.1 with ⟨h, e⟩ | ⟨h, e⟩ | ⟨h, e⟩
  · rw [e]; simp; omega
  · rw [e]
    rcases cmp_cases (farW nx a.1.1 a.1.2) (farW nx b.1.1 b.1.2) with ⟨h2, e2⟩ | ⟨h2, e2⟩ | ⟨h2, e2⟩
    · rw [e2]; simp; omega
    · rw [e2]; simp; omega
    · rw [e2]; simp; omega
  · rw [e]; simp; omega
theorem ltK_f (nx : List Int) (a b : K8) : ltOf (cK nx) a b = false ↔ ¬ lessK nx a.1 b.1 := by rw [← ltK, Bool.not_eq_true]
theorem swoK (nx : List Int) : SWO (ltOf (cK nx)) where
  irrefl x := by rw [ltK_f]; unfold lessK; omega
  trans x y z h1 h2 := by rw [ltK] at *; unfold lessK at *; omega
  ntrans x y z h1 h2 := by rw [ltK_f] at *; unfold lessK at *; omega
theorem totK {nx : List Int} {a b : K8} (h : ¬ lessK nx b.1 a.1) (hne : a ≠ b) : lessK nx a.1 b.1 := by
  unfold lessK at *
  by_cases h1 : a.1.1 = b.1.1
  · have h2 : farW nx a.1.1 a.1.2 ≠ farW nx b.1.1 b.1.2 := fun e => by
      rw [h1] at e
      exact hne (Subtype.ext (Prod.ext h1 (far_inj a.2.2 b.2.2 e)))
    omega
  · omega
theorem str_eq {nx : List Int} : ∀ {a b : List (Int × Int)}, a.Pairwise (lessK nx) → b.Pairwise (lessK nx) → (∀ x, x ∈ a ↔ x ∈ b) → a = b
  | [], [], _, _, _ => rfl
  | [], y :: b, _, _, h => by have := (h y).2 List.mem_cons_self; cases this
  | x :: a, [], _, _, h => by have := (h x).1 List.mem_cons_self; cases this
  | x :: a, y :: b, h1, h2, h => by
    obtain ⟨k1, k2⟩ := List.pairwise_cons.1 h1
    obtain ⟨l1, l2⟩ := List.pairwise_cons.1 h2
    have hirr : ∀ z, ¬ lessK nx z z := fun z h => by unfold lessK at h; omega
    have htr : ∀ u v w, lessK nx u v → lessK nx v w → lessK nx u w := fun u v w h1 h2 => by unfold lessK at *; omega
    have hxy : x = y := by
      rcases List.mem_cons.1 ((h x).1 List.mem_cons_self) with e | hx
      · exact e
      · rcases List.mem_cons.1 ((h y).2 List.mem_cons_self) with e | hy
        · exact e.symm
        · exact absurd (htr _ _ _ (k1 y hy) (l1 x hx)) (hirr _)
    subst hxy
    congr 1
    refine str_eq k2 l2 fun z => ⟨fun hz => ?_, fun hz => ?_⟩
    · rcases List.mem_cons.1 ((h z).1 (List.mem_cons_of_mem _ hz)) with e | hz'
      · subst e; exact absurd (k1 _ hz) (hirr _)
      · exact hz'
    · rcases List.mem_cons.1 ((h z).2 (List.mem_cons_of_mem _ hz)) with e | hz'
      · subst e; exact absurd (l1 _ hz) (hirr _)
      · exact hz'
theorem flat8 (l : List K8) : (flatK encK 2 l.toArray).toList = cells8 l := by
  refine List.ext_getElem? fun t => ?_
  have hcl : (cells8 l).length = l.length * 2 := by
    unfold cells8
    induction l with
    | nil => rfl
    | cons x l ih => simp only [List.flatMap_cons, List.length_append, ih, List.length_cons, encK, List.length_nil]; omega
  have hget : ∀ (l : List K8) (i k : Nat) (hi : i < l.length) (hk : k < 2), (l.flatMap encK)[i * 2 + k]? = (encK l[i])[k]? := by
    intro l
    induction l with
    | nil => intro i k hi; simp at hi
    | cons x l ih =>
      intro i k hi hk
      cases i with
      | zero =>
        rw [List.flatMap_cons, Nat.zero_mul, Nat.zero_add, List.getElem?_append_left (by simpa [encK] using hk)]
        rfl
      | succ i =>
        have hl : (encK x).length = 2 := rfl
        rw [List.flatMap_cons, List.getElem?_append_right (by rw [hl]; omega), hl, show (i + 1) * 2 + k - 2 = i * 2 + k by omega]
        exact ih i k (by simpa using hi) hk
  by_cases ht : t < l.length * 2
  · have h1 := hget l (t / 2) (t % 2) (by omega) (by omega)
    rw [show t / 2 * 2 + t % 2 = t by omega] at h1
    unfold cells8
    rw [h1]
    have hi : t / 2 < l.length := by omega
    have hk : t % 2 < (encK l[t / 2]).length := by show t % 2 < 2; omega
    rw [List.getElem?_eq_getElem hk]
    simp only [flatK, Array.getElem?_toList]
    rw [Array.getElem?_map, Array.getElem?_range]
    simp [ht, hi, hk, List.getElem!_eq_getElem?_getD, List.getElem?_eq_getElem hk]
  · rw [List.getElem?_eq_none (by simp; omega), List.getElem?_eq_none (by omega)]
section
variable {α : Type} [Inhabited α]
theorem holds_blk (enc : α → Value) {w : World} {g : Nat} {cur : Array Value} {e : TypeId} {ss : List α} (hb : w.heap[g]? = some (.cells cur e (0, 0))) (ht : cur.toList.take ss.length = ss.map enc) : Holds enc w g 0 ss.toArray := by
  intro j hj
  have hj' : j < ss.length := by simpa using hj
  refine ⟨?_, by simp [World.frozen?, hb]⟩
  have h1 : (cur.toList.take ss.length)[j]? = (ss.map enc)[j]? := by rw [ht]
  rw [List.getElem?_take_of_lt hj'] at h1
  simp only [World.cell?, hb, Nat.zero_add]
  simp only [Option.isSome_none, Bool.false_eq_true, if_false]
  rw [← Array.getElem?_toList, h1]
  simp [hj']
theorem heap_srt (enc : α → Value) {w : World} {g n : Nat} {os : Array Obj} {cur : Array Value} {e : TypeId} {fr : Nat × Nat} (d : Array α) (hb : w.heap[g]? = some (.cells cur e fr)) :
    (grow (putRow enc (Sort.ahead w n) g 0 d) os).heap[g]? = some (.cells (putCells enc 0 d cur) e fr) := by
  have hg : g < w.heap.size := (Array.getElem?_eq_some_iff.1 hb).1
  rw [heap_grow_old _ _ (by simpa using hg)]
  simp [putRow, mapBlock, Sort.ahead, Array.getElem?_modify, hb, onCells]
theorem grown_srt (enc : α → Value) {w : World} {g n : Nat} {os : Array Obj} (d : Array α) : w.grownBy (grow (putRow enc (Sort.ahead w n) g 0 d) os) (some g) := by
  refine ⟨rfl, rfl, rfl, by simp, fun k hk hne => ?_⟩
  rw [heap_grow_old _ _ (by simpa using hk)]
  have : g ≠ k := fun e => hne (by rw [e])
  simp [putRow, mapBlock, Sort.ahead, Array.getElem?_modify, this]
theorem take_put (enc : α → Value) (cur : Array Value) (ts : List α) (h : ts.length ≤ cur.size) : (putCells enc 0 ts.toArray cur).toList.take ts.length = ts.map enc := by
  apply List.ext_getElem?
  intro j
  by_cases hj : j < ts.length
  · rw [List.getElem?_take_of_lt hj, Array.getElem?_toList]
    simp [putCells, hj, show j < cur.size by omega]
  · rw [List.getElem?_take_eq_none (by omega), List.getElem?_eq_none (by simp; omega)]
end
theorem cells8_len (l : List K8) : (cells8 l).length = l.length * 2 := by
  rw [← flat8]
  simp
theorem nodup_lt {nx : List Int} {l : List K8} (hn : l.Nodup) (h : l.Pairwise fun a b => ¬ lessK nx b.1 a.1) : (l.map (·.1)).Pairwise (lessK nx) := by
  rw [List.pairwise_map]
  exact (List.pairwise_and_iff.2 ⟨h, hn⟩).imp fun h => totK h.1 h.2
theorem sortFunc_calls (w : World) (bc bd bp g cap : Nat) (nx : List Int) (ks : List K8) (hc : w.cell? ⟨bc, 0, none⟩ = some (.func (.func 57) #[] #[.pointer (some ⟨bd, 0, none⟩)])) (hd : w.cell? ⟨bd, 0, none⟩ = some (.pointer (some ⟨bp, 0, none⟩)))
    (hn : ∀ t : Int, 0 ≤ t ∧ t ≤ 7 → w.cell? ⟨bp, t.toNat, none⟩ = some (.int .u16 (nxt nx t))) (B : Nat) (hr : w.ownsRow B 117 2 (.slice (some ⟨g, 0, none⟩) ks.length cap) ks.length (cells8 ks)) (h1 : g ≠ bc) (h2 : g ≠ bd) (h3 : g ≠ bp) (hl : ks.length ≤ 1000000) (hnd : ks.Nodup) :
    Calls Try.prog 96 #[.slice (some ⟨g, 0, none⟩) ks.length cap, .func (.func 61) #[] #[.pointer (some ⟨bc, 0, none⟩)]] w fun e w' => e = .returned (.tuple #[]) ∧ ∃ ts : List K8, ts.Perm ks ∧ (ts.map (·.1)).Pairwise (lessK nx) ∧ w'.ownsRow B 117 2 (.slice (some ⟨g, 0, none⟩) ks.length cap) ks.length (cells8 ts) ∧ w.grownBy w' (some g) := by
  rcases hr.2 with ⟨e, _⟩ | ⟨g', cap', cur, e, hbase, hg, r1, r2, r3, r4⟩
  · cases e
  · cases e
    have hgl : g < w.heap.size := (Array.getElem?_eq_some_iff.1 hg).1
    have hH : HoldsK encK 2 w g 0 ks.toArray := by
      have := holds_blk (α := Value) id (ss := cells8 ks) hg (by rw [cells8_len, List.map_id]; exact r4)
      unfold HoldsK
      rw [← flat8] at this
      exact this
    have eg : ∀ args w, (callFunc 61 args).run Try.prog w = .ok (.enter 61 args) w := enters_of Try.func61 (by kernel_rfl) rfl
    have hcmp : CmpLays Try.prog 61 #[.pointer (some ⟨bc, 0, none⟩)] encK 2 (cK nx) g 0 ks.toArray.size w := by
      intro m os dk hs x y
      have hg1 : w.grownBy (sortWorldK encK 2 w g 0 m dk os) (some g) := grown_srt (α := Value) id _
      have ne : ∀ {b : Nat}, g ≠ b → some b ≠ some g := fun h e => h (Option.some.inj e).symm
      exact cls_calls (sortWorldK encK 2 w g 0 m dk os) bc bd bp nx x.1.1 x.1.2 y.1.1 y.1.2 x.2.1 y.2.1 (hg1.cell (a := ⟨bc, 0, none⟩) hc (ne h1)) (hg1.cell (a := ⟨bd, 0, none⟩) hd (ne h2)) (fun t ht => hg1.cell (a := ⟨bp, t.toNat, none⟩) (hn t ht) (ne h3))
    have h := AnyQ.slices_SortFunc Try.sortS 2 Try.isAgg117 Try.sizeOf117 encK (fun _ => rfl) (fun x v hv => by simp [encK] at hv; rcases hv with rfl | rfl <;> rfl) (cK nx) (swoK nx) 61 #[.pointer (some ⟨bc, 0, none⟩)] g 0 cap ks.toArray w eg hcmp hH hgl (by simp; omega)
    change Calls Try.prog 96 _ _ _ at h
    rw [show ks.toArray.size = ks.length by simp] at h
    refine h.mono ?_
    rintro e w' ⟨rfl, d', q, os, hp, hs, rfl⟩
    have hsz : d'.size = ks.length := by simpa using hp.1
    have hperm : d'.toList.Perm ks := by
      have := hp.2.2
      rw [← hsz, Array.extract_size] at this
      simpa [hsz] using this
    refine ⟨rfl, d'.toList, hperm, nodup_lt (hperm.nodup_iff.2 hnd) ?_, ⟨by rw [cells8_len]; simp [hsz], .inr ⟨g, cap, putCells (α := Value) id 0 (flatK encK 2 d') cur, rfl, hbase, ?_, r1, r2, ?_, ?_⟩⟩, grown_srt (α := Value) id _⟩
    · rw [List.pairwise_iff_getElem]
      intro i j hi hj hij
      have := hs i j (Nat.zero_le _) hij (by simpa [hsz] using hj)
      rw [ltK_f] at this
      have e1 : d'[i]! = d'.toList[i] := by simp [getElem!_pos d' i (by simpa using hi)]
      have e2 : d'[j]! = d'.toList[j] := by simp [getElem!_pos d' j (by simpa using hj)]
      rw [e1, e2] at this
      exact this
    · exact heap_srt (α := Value) id (n := q) (os := os) (flatK encK 2 d') hg
    · simp [putCells, r3]
    · have hf := flat8 d'.toList
      rw [Array.toArray_toList] at hf
      have := take_put (α := Value) id cur (cells8 d'.toList) (by rw [cells8_len, r3]; have : d'.toList.length = ks.length := by simpa using hsz
                                                                  rw [this]; omega)
      rw [cells8_len, List.map_id] at this
      rw [← hf] at this ⊢
      rw [Array.toArray_toList] at this
      simpa [hsz] using this
end Go.Proofs.Ythoammfpjheodaa.Or
