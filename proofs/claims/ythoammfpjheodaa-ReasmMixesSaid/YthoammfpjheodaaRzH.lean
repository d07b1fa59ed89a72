import Derived.Test.YthoammfpjheodaaRzE
import Derived.Test.YthoammfpjheodaaRzG
namespace Go.Proofs.Ythoammfpjheodaa.Rz
open Go.ChangeShapes Go.WideShapes Go.ChangeAt Go.RowKit Go.Shelf MK
open Base (hid cell_new1 cell_old1 froz_new1 froz_old1)
attribute [local go_sem] Oper.semAt_some
set_option linter.unusedVariables false
set_option linter.unusedSimpArgs false
set_option maxRecDepth 100000
theorem Row.cells {w : World} {B : Nat} {A : Option Addr} {c : Nat} {l : List Pm} (h : Row w B A c l) (i : Nat) (hi : i < l.length) : ∃ g, A = some ⟨g, 0, none⟩ ∧ B ≤ g ∧ g < w.heap.size ∧
    w.cell? ⟨g, i * 7, none⟩ = some (.int .u32 l[i].t) ∧ w.cell? ⟨g, i * 7 + 1, none⟩ = some (.int .u16 l[i].s) ∧ w.cell? ⟨g, i * 7 + 2, none⟩ = some (.int .u16 l[i].q) ∧ w.cell? ⟨g, i * 7 + 3, none⟩ = some (.bool l[i].b) ∧
    w.cell? ⟨g, i * 7 + 4, none⟩ = some (.bool l[i].e) ∧ w.cell? ⟨g, i * 7 + 5, none⟩ = some (.bool l[i].u) ∧ w.cell? ⟨g, i * 7 + 6, none⟩ = some (.slice l[i].A l[i].x.length l[i].c) := by
  obtain ⟨g, e, hb, hg, h7⟩ := h.at i hi
  exact ⟨g, e, hb, hg, h7 0 (by decide), h7 1 (by decide), h7 2 (by decide), h7 3 (by decide), h7 4 (by decide), h7 5 (by decide), h7 6 (by decide)⟩
def closedE (l : List Pm) : Bool := (l.head?.map (·.b)).getD false && (l.getLast?.map (·.e)).getD false
theorem closed_calls (w : World) (B : Nat) (A : Option Addr) (c : Nat) (l : List Pm) (h : Row w B A c l) (hl : 0 < l.length) (hl2 : l.length ≤ 1000000) :
    Calls Try.prog 50 #[.slice A l.length c] w fun e w' => e = .returned (.bool (closed l)) ∧ w = w' := by
  obtain ⟨g, rfl, _, _, _, _, _, c3, _⟩ := h.cells 0 hl
  obtain ⟨g', e', _, _, _, _, _, _, d4, _⟩ := h.cells (l.length - 1) (by omega)
  cases e'
  have h1 : (l.head?.map (·.b)).getD false = l[0].b := by
    cases l with
    | nil => simp at hl
    | cons p l => rfl
  have h2 : (l.getLast?.map (·.e)).getD false = (l[l.length - 1]'(by omega)).e := by
    rw [List.getLast?_eq_getElem?, List.getElem?_eq_getElem (by omega)]
    rfl
  have hcl : closed l = (l[0].b && (l[l.length - 1]'(by omega)).e) := by unfold closed; rw [h1, h2]
  have HC := hid hcl
  have hw1 : wrap64 ((l.length : Int) - 1) = ((l.length - 1 : Nat) : Int) := by unfold wrap64; omega
  have hn1 : ((l.length - 1 : Nat) : Int).toNat = l.length - 1 := by omega
  have hb1 : (0 : Int) ≤ ((l.length - 1 : Nat) : Int) ∧ ((l.length - 1 : Nat) : Int) < (l.length : Int) := by omega
  clear h h1 h2 hcl
  cases hb : l[0].b with
  | false =>
    rw [hb] at c3
    have HB := hid hb
    clear hb
    go_enter Try.func50, Try.ntmps50
    go_wp2
    go_ret
    rw [HC.out, HB.out]
    exact ⟨rfl, rfl⟩
  | true =>
    rw [hb] at c3
    have HB := hid hb
    clear hb
    go_enter Try.func50, Try.ntmps50
    go_wp2
    go_ret
    rw [HC.out, HB.out]
    exact ⟨by simp, rfl⟩
theorem off_mem {r : Pm} : ∀ (l m : List Pm), r ∈ off m l ↔ r ∈ m ∧ r.t ∉ keys l
  | [], m => by simp [off, keys]
  | p :: l, m => by
    have ih := off_mem (r := r) l (del m p.t)
    unfold off at ih ⊢
    rw [List.foldl_cons, ih, mem_del]
    unfold keys
    simp only [List.map_cons, List.mem_cons, not_or]
    constructor
    · rintro ⟨⟨h1, h2⟩, h3⟩
      exact ⟨h1, h2, h3⟩
    · rintro ⟨h1, h2, h3⟩
      exact ⟨⟨h1, h2⟩, h3⟩
theorem off_nodup : ∀ (l m : List Pm), (keys m).Nodup → (keys (off m l)).Nodup
  | [], m, h => h
  | p :: l, m, h => by
    unfold off
    rw [List.foldl_cons]
    exact off_nodup l (del m p.t) (nodup_del h p.t)
theorem off_snoc (m l : List Pm) (p : Pm) : off m (l ++ [p]) = del (off m l) p.t := by unfold off; simp
/-- The pieces of a list are on a bench. -/
def OffOk (m l : List Pm) : Prop := (keys l).Nodup ∧ ∀ p ∈ l, U32 p.t ∧ ∃ r ∈ m, r.t = p.t ∧ r.x.length = p.x.length
theorem OffOk.at {m l : List Pm} (h : OffOk m l) (i : Nat) (hi : i < l.length) : U32 l[i].t ∧ ∃ r ∈ off m (l.take i), r.t = l[i].t ∧ r.x.length = l[i].x.length := by
  obtain ⟨hu, r, hr, ht, hx⟩ := h.2 l[i] (List.getElem_mem hi)
  refine ⟨hu, r, (off_mem _ _).2 ⟨hr, ?_⟩, ht, hx⟩
  rw [ht]
  intro hk
  obtain ⟨q, hq, e⟩ := List.mem_map.1 hk
  obtain ⟨j, hj, rfl⟩ := List.mem_take_iff_getElem.1 hq
  have hn := h.1
  unfold keys at hn
  have hji : j < i := by have := Nat.lt_min.1 hj; exact this.1
  have := (List.pairwise_iff_getElem.1 hn) j i (by simp; omega) (by simpa using hi) hji
  simp at this
  exact this e
theorem Row.mv {w w' : World} {bp mb B : Nat} {A : Option Addr} {c : Nat} {l : List Pm} (h : Row w B A c l) (hm : Mv w w' bp mb) (h1 : bp < B) (h2 : mb < B) : Row w' B A c l := by
  refine ⟨h.1, h.2.imp id ?_⟩
  rintro ⟨g, cap, cur, e, hb, hg, rest⟩
  exact ⟨g, cap, cur, e, hb, (hm.block g (Array.getElem?_eq_some_iff.1 hg).1 (by omega) (by omega)).trans hg, rest⟩
theorem fP_del (m : List Pm) (t y : Int) : upd (fP m) t none y = fP (del m t) y := by
  unfold upd fP
  rw [look_del]
  split <;> rfl
/-- A piece is taken off. -/
theorem Bn.drop {w : World} {bp mb n : Nat} {m : List Pm} (h : Bn w bp mb n m) {t : Int} (hu : U32 t) {r : Pm} (hr : r ∈ m) (ht : r.t = t) (ty : TypeId) :
    ∃ w', (Builtin.delete_ #[102, 23] ty #[.map (some mb), .int .u32 t]).run Try.prog w = .ok (.tuple #[]) w' ∧ MapIs Try.prog 23 w' KU mb n (fP (del m t)) (del m t).length ∧ w.mapTurned w' mb := by
  obtain ⟨w1, hrun, hm, hT⟩ := h.map.drop Try.underlying102 t (u_wf hu) ty
  refine ⟨w1, hrun, ?_, hT⟩
  have h2 := hm.ext (g := fP (del m t)) fun y _ => fP_del m t y
  have e : (fP m t).isSome = (Rz.look m t).isSome := by unfold fP; cases Rz.look m t <;> rfl
  rw [e] at h2
  rw [len_del h.nod]
  exact h2
theorem Bn.turned {w w' : World} {bp mb n : Nat} {m : List Pm} (h : Bn w bp mb n m) (hT : w.mapTurned w' mb) : w'.heap[bp]? = w.heap[bp]? := hT.grown.block bp h.lt.1 (fun e => h.ne (Option.some.inj e))
theorem Bn.drop_fin {w w3 : World} {bp mb n : Nat} {m : List Pm} (h : Bn w bp mb n m) {t : Int} (hM : MapIs Try.prog 23 w3 KU mb n (fP (del m t)) (del m t).length) (hT : w.mapTurned w3 mb) {z : Int} (hz : z = (held (del m t) : Nat)) :
    Bn (w3.setCell ⟨bp, 1, none⟩ (.int .i64 z)).drew bp mb n (del m t) ∧ Mv w (w3.setCell ⟨bp, 1, none⟩ (.int .i64 z)).drew bp mb := by
  subst hz
  have hb := h.turned hT
  have e0 : w3.cell? ⟨bp, 0, none⟩ = some (.map (some mb)) := (World.cell?_of_block (a := ⟨bp, 0, none⟩) hb).trans h.ptr
  have e1 : w3.cell? ⟨bp, 1, none⟩ = some (.int .i64 (held m : Nat)) := (World.cell?_of_block (a := ⟨bp, 1, none⟩) hb).trans h.hel
  have f1 : w3.frozen? ⟨bp, 1, none⟩ = false := (World.frozen?_of_block (a := ⟨bp, 1, none⟩) hb).trans h.fr
  have hgs := grown_setAt w3 bp 1 (.int .i64 ((held (del m t) : Nat) : Int))
  refine ⟨⟨(World.cell?_setCell_other _ _ _ _ (by simp)).trans e0, World.cell?_setCell_same _ _ _ e1, ?_, ?_, nodup_del h.nod t, fun q hq => ?_, fun q hq => h.far q (mem_del.1 hq).1⟩, ?_⟩
  · show (w3.setCell ⟨bp, 1, none⟩ _).frozen? _ = false
    simpa using f1
  · exact hM.block (w' := (w3.setCell ⟨bp, 1, none⟩ (.int .i64 ((held (del m t) : Nat) : Int))).drew) (hgs.block mb hM.lt (fun e => h.ne (Option.some.inj e).symm))
  · have hk : ∀ k, k < w.heap.size → k ≠ mb → w3.heap[k]? = w.heap[k]? := fun k hk hne => hT.grown.block k hk (fun e => hne (by cases e; rfl))
    exact ((h.ok' (h.ok q (mem_del.1 hq).1) hT.grown.size hk).set e1 _).below (Below.drew (Below.refl _ _))
  · exact ((Mv.grown (bp := bp) hT.grown (.inr rfl)).trans (Mv.grown hgs (.inl rfl))).trans (Mv.of_below (Below.drew (Below.refl _ _)))
theorem held_le {m : List Pm} : ∀ (l : List Pm), held (off m l) ≤ held m := by
  intro l
  induction l generalizing m with
  | nil => exact Nat.le_refl _
  | cons p l ih =>
    unfold off at ih ⊢
    rw [List.foldl_cons]
    refine Nat.le_trans ih ?_
    unfold del held
    clear ih
    induction m with
    | nil => exact Nat.le_refl _
    | cons r m ih =>
      rw [List.filter_cons]
      split
      · simp only [List.map_cons, List.sum_cons]; omega
      · simp only [List.map_cons, List.sum_cons]; omega
def numV : Value → Nat
  | .int _ n => n.toNat
  | _ => 0
set_option maxHeartbeats 2000000 in
theorem off_calls (w : World) (bp mb n B : Nat) (m l : List Pm) (A : Option Addr) (c : Nat) (h : Bn w bp mb n m) (hr : Row w B A c l) (ho : OffOk m l) (h1 : bp < B) (h2 : mb < B) (hh : held m ≤ 1000000000) (hl : l.length ≤ 1000000) :
    Calls Try.prog 51 #[.pointer (some ⟨bp, 0, none⟩), .slice A l.length c] w fun e w' => ∃ v, e = .returned v ∧ Bn w' bp mb n (off m l) ∧ Mv w w' bp mb := by
  have H := hid h
  have HR := hid hr
  have HO := hid ho
  clear h hr ho
  go_enter Try.func51, Try.ntmps51
  go_wp2
  go_loopw [8] (fun v8 wr => ∃ i : Nat, i ≤ l.length ∧ v8 = .int .i64 i ∧ Hid (Bn wr bp mb n (off m (l.take i))) ∧ Hid (Mv w wr bp mb)) (fun v8 _ => l.length - numV v8)
  case atStart => exact ⟨0, Nat.zero_le _, rfl, H, hid (Mv.of_below (Below.refl _ _))⟩
  case round =>
    obtain ⟨i, hil, rfl, HB, HM⟩ := hrel
    by_cases hlt : i < l.length
    · have hRw := HR.out.mv HM.out h1 h2
      obtain ⟨p, hp⟩ : ∃ p, l[i] = p := ⟨_, rfl⟩
      obtain ⟨g, rfl, hBg, hgl, c0, c1, c2, c3, c4, c5, c6⟩ := hRw.cells i hlt
      rw [hp] at c0 c1 c2 c3 c4 c5 c6
      have hot := HO.out.at i hlt
      rw [hp] at hot
      have hn1 : l.take (i + 1) = l.take i ++ [p] := by rw [List.take_succ_eq_append_getElem hlt, hp]
      have HOT := hid hot
      have HN1 := hid hn1
      clear hp hot hn1 hRw
      have HX := hid (Box.new wr p)
      have HBX := hid (HB.out.below (below_alloc (Below.refl _ _) (.cells #[.int .u32 p.t, .int .u16 p.s, .int .u16 p.q, .bool p.b, .bool p.e, .bool p.u, .slice p.A p.x.length p.c] 40)))
      go_wp2
      have HMV : Hid (Mv wr (wr.alloc (.cells #[.int .u32 p.t, .int .u16 p.s, .int .u16 p.q, .bool p.b, .bool p.e, .bool p.u, .slice p.A p.x.length p.c] 40)) bp mb) := hid (Mv.of_below (below_alloc (Below.refl _ _) _))
      generalize (wr.alloc (.cells #[.int .u32 p.t, .int .u16 p.s, .int .u16 p.q, .bool p.b, .bool p.e, .bool p.u, .slice p.A p.x.length p.c] 40)) = W2 at HX HBX HMV ⊢
      obtain ⟨r, hr, hrt, hrx⟩ := HOT.out.2
      obtain ⟨w3, hrun, hM3, hT3⟩ := (HBX.out.below (Below.drew (Below.refl _ _))).drop HOT.out.1 hr hrt 0
      have hp0 := HBX.out.ptr
      obtain ⟨x0, x1, x2, x3, x4, x5, x6, xf⟩ := HX.out
      go_region
      have HBD := hid (HBX.out.below (Below.drew (Below.refl _ _)))
      have hb3 := HBD.out.turned hT3
      have e1 : w3.cell? ⟨bp, 1, none⟩ = some (.int .i64 (held (off m (l.take i)) : Nat)) := (World.cell?_of_block (a := ⟨bp, 1, none⟩) hb3).trans HBD.out.hel
      have f1 : w3.frozen? ⟨bp, 1, none⟩ = false := (World.frozen?_of_block (a := ⟨bp, 1, none⟩) hb3).trans HBD.out.fr
      have hbx : Box w3 wr.heap.size p := (HX.out.below (Below.drew (Below.refl _ _))).block (hT3.grown.block _ (HX.out.below (Below.drew (Below.refl _ _))).lt (fun e => by have := Option.some.inj e; have := HB.out.lt.2; omega))
      obtain ⟨y0, y1, y2, y3, y4, y5, y6, yf⟩ := hbx
      have hhd := held_del HBX.out.nod hr
      rw [hrt, hrx] at hhd
      have hle : held (off m (l.take i)) ≤ held m := held_le _
      have hws : wrap64 ((held (off m (l.take i)) : Int) - (p.x.length : Int)) = ((held (del (off m (l.take i)) p.t) : Nat) : Int) := by unfold wrap64; omega
      have HWS := hid hws
      have HFIN := hid (HBD.out.drop_fin hM3 hT3 (z := ((held (del (off m (l.take i)) p.t) : Nat) : Int)) rfl)
      clear hrun hM3 hT3 hhd hle hb3 hr hrt hrx
      go_wp2
      go_region
      go_wp2
      go_roundw
      case rel =>
        refine ⟨i + 1, by omega, by go_num, hid ?_, hid (((HM.out.trans HMV.out).trans (Mv.of_below (Below.drew (Below.refl _ _)))).trans HFIN.out.2)⟩
        rw [HN1.out, off_snoc]
        exact HFIN.out.1
      case measure => simp [numV]; omega
    · obtain rfl : i = l.length := by omega
      have hBf := HB.out
      rw [List.take_length] at hBf
      have HBf := hid hBf
      clear hBf
      go_wp2
      go_end0
      exact ⟨_, rfl, HBf.out, HM.out⟩
end Go.Proofs.Ythoammfpjheodaa.Rz
