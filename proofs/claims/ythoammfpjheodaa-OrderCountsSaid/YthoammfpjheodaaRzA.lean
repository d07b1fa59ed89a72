import Derived.Test.YthoammfpjheodaaBase
import Derived.Test.YthoammfpjheodaaMapK
import Derived.Test.YthoammfpjheodaaRzLaw
import Derived.WalkKit
import Derived.ProofKit
import Derived.OpenShut
import Derived.OwnWalk
import Derived.Below
import Derived.WalkSmall
import Derived.Maps.AppendAt
import Derived.WalkSpells
import Derived.Deep.QuietTactic
import Derived.BigQuiet
import Derived.LoopTactic
import Derived.Outline
import Derived.WalkLawsBesides
import Derived.Sort.QuietIn
import Derived.RangeFuncNested
import Derived.RangeFuncBound
import Derived.RangeFuncCalls
import Derived.RangeFuncLeaves
import Derived.Shelf.Abstract
import Derived.OwnWalkIn
import Derived.TacticsInMore
import Derived.LoopNIn
import Derived.LoopIn
import Derived.Laws.OwnMore
import Derived.Laws.AppendOwnNone
import Derived.RegionTactic
import Derived.ChangeAlike
import Derived.Deep.RegionLaw
namespace Go.Proofs.Ythoammfpjheodaa.Rz
open Go.ChangeShapes Go.WideShapes Go.ChangeAt Go.RowKit Go.Shelf MK
open Base (hid cell_new1 cell_old1 froz_new1 froz_old1)
attribute [local go_sem] Oper.semAt_some
set_option linter.unusedVariables false
set_option linter.unusedSimpArgs false
set_option maxRecDepth 100000
theorem below_alloc {w W : World} (h : Below w.heap.size w W) (o : Obj) : Below w.heap.size w (W.alloc o) := h.alloc h.size o
theorem lt_of_cell {w : World} {b o : Nat} {v : Value} (h : w.cell? ⟨b, o, none⟩ = some v) : b < w.heap.size := by
  rcases Nat.lt_or_ge b w.heap.size with hb | hb
  · exact hb
  · simp [World.cell?, Array.getElem?_eq_none hb] at h
theorem add_block (a : Addr) (j : Nat) : (a.add j).block = a.block := by
  unfold Addr.add
  split <;> rfl
/-- A piece's value. -/
def Pm.val (p : Pm) : Value := .agg #[.int .u32 p.t, .int .u16 p.s, .int .u16 p.q, .bool p.b, .bool p.e, .bool p.u, .slice p.A p.x.length p.c]
/-- A text in memory. -/
def Txt (w : World) (A : Option Addr) (x : List Int) : Prop := ∀ i (h : i < x.length), ∃ ad, A = some ad ∧ ad.block < w.heap.size ∧ w.cell? (ad.add i) = some (.int .u8 x[i])
theorem Txt.kept {w w' : World} {A : Option Addr} {x : List Int} (h : Txt w A x) (hs : w.heap.size ≤ w'.heap.size) (hb : ∀ ad, A = some ad → w'.heap[ad.block]? = w.heap[ad.block]?) : Txt w' A x := by
  intro i hi
  obtain ⟨ad, e, hl, hc⟩ := h i hi
  refine ⟨ad, e, Nat.lt_of_lt_of_le hl hs, ?_⟩
  refine (World.cell?_of_block (w := w) (a := ad.add i) ?_).trans hc
  rw [add_block]
  exact hb ad e
theorem Txt.below {w w' : World} {A : Option Addr} {x : List Int} (h : Txt w A x) (hb : Below w.heap.size w w') : Txt w' A x := by
  intro i hi
  obtain ⟨ad, e, hl, hc⟩ := h i hi
  refine ⟨ad, e, Nat.lt_of_lt_of_le hl hb.size, (hb.cell (p := ad.add i) ?_).trans hc⟩
  rw [add_block]
  exact hl
/-- A text whose length and place fit. -/
structure Ok (w : World) (p : Pm) : Prop where
  txt : Txt w p.A p.x
  nil : p.A = none → p.c = 0
  u : U32 p.t
  l : p.x.length ≤ 1000000
theorem Ok.below {w w' : World} {p : Pm} (h : Ok w p) (hb : Below w.heap.size w w') : Ok w' p := ⟨h.txt.below hb, h.nil, h.u, h.l⟩
theorem info5 : (Try.prog.info? 5).map (fun i => (i.zero, i.size, i.bytes)) = some (some (.int .u8 0), 1, 1) := by kernel_rfl
theorem wpList_app_txt {ops : Array Oper} {rest : List Oper} {o : Oper} {a : Go.Act} {w : World} {Q : Exit → Go.Act → World → Prop} (hgd : o.guard = none) (s x : Operand)
    (ho : o.op = .call { callee := .builtin .append, args := #[s, x], argTypes := #[32, 32] }) (base : Nat) (v : Value) (n : Nat) (xs : List Int) (hs : a.eval s = v) (hown : w.ownsRow base 5 1 v n (xs.map (.int .u8)))
    (A : Option Addr) (m c : Nat) (l : List Int) (hm : m = l.length) (hx : a.eval x = .slice A m c) (hA : A = none → c = 0) (hr : Txt w A l) (hnm : n + m ≤ 10000000) (hbase : base ≤ w.heap.size)
    (h : ∀ v' w', w'.ownsRow base 5 1 v' (n + m) ((xs ++ l).map (.int .u8)) → w.grownBy w' v.ownBlock → (v'.ownBlock = v.ownBlock ∨ v'.ownBlock = some w.heap.size) → wpList Try.prog ops Q rest (a.put o.dst v') w') :
    wpList Try.prog ops Q (o :: rest) a w := by
  obtain ⟨i0, hi, hi0, hi1, hi2⟩ := info_parts info5
  cases A with
  | none =>
    have hl : l = [] := by
      cases l with
      | nil => rfl
      | cons y l =>
        obtain ⟨ad, e, _⟩ := hr 0 (by simp)
        cases e
    subst hl
    obtain rfl : m = 0 := hm
    obtain rfl := hA rfl
    exact wpList_append_own_none hgd s x 32 ho base 5 i0 1 Try.underlying32 hi v n (xs.map (.int .u8)) hs hown hx (h v w (by simpa using hown) (World.grownBy.refl _ _) (.inl rfl))
  | some ad =>
    refine wpList_append_own_at w hgd s x 32 ho base 5 i0 (.int .u8 0) 1 1 Try.underlying32 hi hi0 hi1 hi2 rfl (by decide) v n (xs.map (.int .u8)) hs hown ad m c (l.map (.int .u8)) hx (by simp [hm]) (fun j u hj => ?_) (fun u hu => ?_) (by unfold maxLen; omega) (by omega) hbase (fun v' w' h1 h2 _ h4 => h v' w' (by simpa using h1) h2 h4)
    · have hjl : j < l.length := by
        rcases Nat.lt_or_ge j l.length with h' | h'
        · exact h'
        · rw [List.getElem?_eq_none (by simpa using h')] at hj
          cases hj
      obtain ⟨ad', e, _, hc⟩ := hr j hjl
      cases e
      rw [hc]
      simpa [hjl] using hj
    · obtain ⟨y, _, rfl⟩ := List.mem_map.1 hu
      rfl
theorem txt_row {w : World} {B n c : Nat} {A : Option Addr} {x : List Int} (h : w.ownsRow B 5 1 (.slice A n c) n (x.map (.int .u8))) : Txt w A x := by
  rcases h.2 with ⟨e, rfl⟩ | ⟨g, cap, cur, e, hb, hg, _⟩
  · have := h.1
    intro i hi
    simp at this
    simp [this] at hi
  · simp only [Value.slice.injEq] at e
    obtain ⟨rfl, _, _⟩ := e
    intro i hi
    refine ⟨⟨g, 0, none⟩, rfl, (Array.getElem?_eq_some_iff.1 hg).1, ?_⟩
    have := h.cells (g := g) rfl i (.int .u8 x[i]) (by simp [hi])
    exact this
theorem nil_row {w : World} {B e s n c : Nat} {xs : List Value} (h : w.ownsRow B e s (.slice none n c) n xs) : c = 0 := by
  rcases h.2 with ⟨e, _⟩ | ⟨g, cap, cur, e, _⟩
  · simp only [Value.slice.injEq] at e
    exact e.2.2
  · cases e
/-- slices.Clone of a text. -/
theorem clone_calls (A : Option Addr) (c : Nat) (x : List Int) (w : World) (hx : x.length ≤ 1000000) (h : Txt w A x) (hA : A = none → c = 0) :
    Calls Try.prog 46 #[.slice A x.length c] w fun e w' => ∃ A' c', e = .returned (.slice A' x.length c') ∧ w'.ownsRow w.heap.size 5 1 (.slice A' x.length c') x.length (x.map (.int .u8)) ∧ Below w.heap.size w w' := by
  cases A with
  | none =>
    have hl : x = [] := by
      cases x with
      | nil => rfl
      | cons y l =>
        obtain ⟨ad, e, _⟩ := h 0 (by simp)
        cases e
    subst hl
    obtain rfl := hA rfl
    have h0 := fun w => Lib.run_eql_slice_nil (P := Try.prog) w 32 5 none 0 0 0 0 Try.underlying32
    go_enter Try.func46, Try.ntmps46
    go_wp2
    go_ret
    exact ⟨none, 0, rfl, World.ownsRow_nil _ _ _ _, Below.refl _ _⟩
  | some ad =>
    have HT := hid h
    clear h hA
    have h0 := fun w => Lib.run_eql_slice_nil (P := Try.prog) w 32 5 (some ad) x.length c 0 0 Try.underlying32
    have HO : Hid ((w.alloc (.cells #[] 5)).ownsRow w.heap.size 5 1 (.slice (some ⟨w.heap.size, 0, none⟩) 0 0) 0 (([] : List Int).map (.int .u8))) := hid (World.ownsRow_made w (e := 5) (size := 1) #[] 0 (Nat.le_refl _) (by decide) rfl)
    go_enter Try.func46, Try.ntmps46
    go_wp2_with (at_builtin; go_must (refine wpList_app_txt rfl _ _ rfl w.heap.size _ 0 [] rfl HO.out (some ad) x.length c x rfl rfl (fun e => by cases e) (HT.out.below (below_alloc (Below.refl _ _) _)) (by omega) (by simp) ?_))
    intro v w1 own hg _
    have hb : Below w.heap.size w w1 := (below_alloc (Below.refl _ _) _).grown hg (by simp) (fun k e => by simp [Value.ownBlock] at e; omega)
    obtain ⟨A', c', rfl, _⟩ := Base.slice_of_row own
    have HOW := hid own
    have HB := hid hb
    clear own hg hb
    go_wp2
    go_ret
    refine ⟨A', c', by simp, ?_, HB.out⟩
    simpa using HOW.out
end Go.Proofs.Ythoammfpjheodaa.Rz
