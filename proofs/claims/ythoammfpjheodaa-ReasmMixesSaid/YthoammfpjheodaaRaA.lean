import Derived.Test.YthoammfpjheodaaRzU
namespace Go.Proofs.Ythoammfpjheodaa.Rz
open Go.ChangeShapes Go.WideShapes Go.ChangeAt Go.RowKit Go.Shelf MK Go.Joins
open Base (hid cell_new1 cell_old1 froz_new1 froz_old1)
attribute [local go_sem] Oper.semAt_some
set_option linter.unusedVariables false
set_option linter.unusedSimpArgs false
set_option maxRecDepth 100000
/-! the document's answer of layer 20: get, Has, Held, Closed -/
def p0 : Pm := ⟨0, 0, 0, false, false, false, none, [], 0⟩
theorem look_first {r : List Pm} {t : Int} {i : Nat} (hi : i < r.length) (h : ∀ j (hj : j < r.length), j < i → r[j].t ≠ t) (ht : r[i].t = t) : look r t = some r[i] := by
  unfold look
  rw [List.find?_eq_some_iff_getElem]
  refine ⟨by simpa using ht, i, hi, rfl, fun j hj => ?_⟩
  simpa using h j (by omega) hj
theorem look_no {r : List Pm} {t : Int} (h : ∀ j (hj : j < r.length), r[j].t ≠ t) : look r t = none := by
  unfold look
  rw [List.find?_eq_none]
  intro x hx
  obtain ⟨i, hi, rfl⟩ := List.getElem_of_mem hx
  simpa using h i hi
theorem results45 {fn : Func} (h : fn.results = #[.cell 4 40, .tmp 5]) {tmps : Array Value} {b : Nat} {p : Pm} {v5 : Value} {w : World} (ht : tmps[4]? = some (.pointer (some ⟨b, 0, none⟩))) (ht5 : tmps[5]? = some v5) (hb : Box w b p) :
    (results fn tmps).run Try.prog w = .ok (.tuple #[p.val, v5]) w := by
  obtain ⟨c0, c1, c2, c3, c4, c5, c6, _⟩ := hb
  simp only [results, h]
  simp [go_sem, c0, c1, c2, c3, c4, c5, c6, Sem.run_bind, Array.getD_eq_getD_getElem?, ht, ht5, Pm.val]
set_option maxHeartbeats 1000000 in
theorem get_calls (w : World) (A : Option Addr) (c : Nat) (r : List Pm) (t : Int) (h : InR w A c r) :
    Calls Try.prog 102 #[.slice A r.length c, .int .u32 t] w fun e w' => e = .returned (.tuple #[(((look r t).map Pm.val).getD p0.val), .bool (look r t).isSome]) ∧ Below w.heap.size w w' := by
  have H := hid h
  clear h
  go_enter Try.func102, Try.ntmps102
  have hb0 : Box (w.alloc (.cells #[.int .u32 0, .int .u16 0, .int .u16 0, .bool false, .bool false, .bool false, .slice none 0 0] 40)) w.heap.size p0 := Box.new w p0
  obtain ⟨w1, hw1⟩ : ∃ w1, w1 = w.alloc (.cells #[.int .u32 0, .int .u16 0, .int .u16 0, .bool false, .bool false, .bool false, .slice none 0 0] 40) := ⟨_, rfl⟩
  rw [← hw1] at hb0
  have HB0 := hid hb0
  have HB1 : Hid (Below w.heap.size w w1) := by rw [hw1]; exact hid (below_alloc (Below.refl _ _) _)
  have hz1 : w.heap.size + 1 = w1.heap.size := by rw [hw1]; simp
  have HW1 := hid hw1
  clear hb0 hw1
  go_wp2
  rw [← HW1.out]
  go_loopw [6] (fun v6 wr => ∃ i : Nat, i ≤ r.length ∧ v6 = .int .i64 i ∧ Hid (∀ j (hj : j < r.length), j < i → r[j].t ≠ t) ∧ w1 = wr) (fun v6 _ => r.length - numV v6)
  case atStart => exact ⟨0, Nat.zero_le _, rfl, hid (fun j hj h => absurd h (Nat.not_lt_zero _)), rfl⟩
  case round =>
    obtain ⟨i, hil, rfl, HN, rfl⟩ := hrel
    by_cases hlt : i < r.length
    · obtain ⟨ad, rfl, hbl, c0, c1, c2, c3, c4, c5, c6⟩ := (H.out.below HB1.out).at i hlt
      obtain ⟨p, hp⟩ : ∃ p, r[i] = p := ⟨_, rfl⟩
      have hlen := H.out.len
      rw [hp] at c0 c1 c2 c3 c4 c5 c6
      obtain ⟨x0, x1, x2, x3, x4, x5, x6, xf⟩ := HB0.out
      by_cases ht : p.t = t
      · have hres : look r t = some p := by rw [look_first hlt HN.out (by rw [hp]; exact ht), hp]
        have HRES := hid hres
        have hd : (p.t == t) = true := by simpa using ht
        have HS := hid (HB0.out.set p)
        have HG := hid (setCells_grown w.heap.size [.int .u32 p.t, .int .u16 p.s, .int .u16 p.q, .bool p.b, .bool p.e, .bool p.u, .slice p.A p.x.length p.c] 0 w1)
        clear hres hp
        subst ht
        go_wp2
        refine bodyPost_ret (results45 rfl rfl rfl HS.out) rfl ⟨by rw [HRES.out]; rfl, HB1.out.grown HG.out (by omega) (fun k e => by have := Option.some.inj e; omega)⟩
      · have hd : (p.t == t) = false := by simpa using ht
        have HN2 : Hid (∀ j (hj : j < r.length), j < i + 1 → r[j].t ≠ t) := hid (fun j hj h => by
          rcases Nat.lt_or_ge j i with h' | h'
          · exact HN.out j hj h'
          · obtain rfl : j = i := by omega
            rw [hp]; exact ht)
        clear hp
        go_wp2
        go_roundw
        case rel => exact ⟨i + 1, by omega, by simp, HN2, trivial⟩
        case measure => simp [numV]; omega
    · obtain rfl : i = r.length := by omega
      have hres : look r t = none := look_no fun j hj => HN.out j hj hj
      have HRES := hid hres
      have HS := hid (HB0.out.set p0)
      have HG := hid (setCells_grown w.heap.size [.int .u32 0, .int .u16 0, .int .u16 0, .bool false, .bool false, .bool false, .slice none 0 0] 0 w1)
      obtain ⟨x0, x1, x2, x3, x4, x5, x6, xf⟩ := HB0.out
      clear hres
      go_wp2
      refine bodyPost_ret (results45 rfl rfl rfl HS.out) rfl ⟨by rw [HRES.out]; rfl, HB1.out.grown HG.out (by omega) (fun k e => by have := Option.some.inj e; omega)⟩
theorem rhas_calls (w : World) (A : Option Addr) (c : Nat) (r : List Pm) (t : Int) (h : InR w A c r) :
    Calls Try.prog 76 #[.slice A r.length c, .int .u32 t] w fun e w' => e = .returned (.bool (look r t).isSome) ∧ Below w.heap.size w w' := by
  have hg := get_calls w A c r t h
  cases hl : look r t with
  | none =>
    rw [hl] at hg
    simp only [Option.map_none, Option.getD_none, Option.isSome_none, Pm.val, p0, List.length_nil] at hg
    have HG := hid hg
    clear hg hl
    go_enter Try.func76, Try.ntmps76
    go_wp2_with (go_at_call 102; go_must (refine HG.out.mono ?_; rintro e w1 ⟨rfl, hb⟩; have HB := hid hb; clear hb))
    go_ret
    exact ⟨rfl, below_alloc HB.out _⟩
  | some p =>
    rw [hl] at hg
    simp only [Option.map_some, Option.getD_some, Option.isSome_some, Pm.val] at hg
    have HG := hid hg
    clear hg hl
    go_enter Try.func76, Try.ntmps76
    go_wp2_with (go_at_call 102; go_must (refine HG.out.mono ?_; rintro e w1 ⟨rfl, hb⟩; have HB := hid hb; clear hb))
    go_ret
    exact ⟨rfl, below_alloc HB.out _⟩
set_option maxHeartbeats 1000000 in
theorem rheld_calls (w : World) (A : Option Addr) (c : Nat) (r : List Pm) (h : InR w A c r) (hh : held r ≤ 1000000000) :
    Calls Try.prog 81 #[.slice A r.length c] w fun e w' => e = .returned (.int .i64 (held r : Nat)) ∧ w = w' := by
  have H := hid h
  clear h
  go_enter Try.func81, Try.ntmps81
  go_wp2
  go_loopw [3, 4] (fun v3 v4 wr => ∃ i : Nat, i ≤ r.length ∧ v4 = .int .i64 i ∧ v3 = .int .i64 (held (r.take i) : Nat) ∧ w = wr) (fun v3 v4 _ => r.length - numV v4)
  case atStart => exact ⟨0, Nat.zero_le _, rfl, rfl, rfl⟩
  case round =>
    obtain ⟨i, hil, rfl, rfl, rfl⟩ := hrel
    by_cases hlt : i < r.length
    · obtain ⟨ad, rfl, hbl, c0, c1, c2, c3, c4, c5, c6⟩ := H.out.at i hlt
      have hlen := H.out.len
      have hns := held_take_succ r i hlt
      have hle := held_take_le r (i + 1)
      have hws : wrap64 ((held (r.take i) : Nat) + ((r[i].x.length : Nat) : Int)) = ((held (r.take (i + 1)) : Nat) : Int) := by unfold wrap64; omega
      clear hns hle
      go_wp2
      go_roundw
      case rel => exact ⟨i + 1, by omega, by simp, by rw [hws], trivial⟩
      case measure => simp [numV]; omega
    · obtain rfl : i = r.length := by omega
      go_wp2
      go_ret
      rw [List.take_length]
      exact ⟨rfl, rfl⟩
theorem rclosed_calls (w : World) (B : Nat) (A : Option Addr) (c : Nat) (l : List Pm) (h : Row w B A c l) (hl : 0 < l.length) (hl2 : l.length ≤ 1000000) :
    Calls Try.prog 86 #[.slice A l.length c] w fun e w' => e = .returned (.bool (closed l)) ∧ w = w' := by
  obtain ⟨g, rfl, _, _, _, _, _, c3, _⟩ := h.cells 0 hl
  obtain ⟨g', e', _, _, _, _, _, _, d4, _⟩ := h.cells (l.length - 1) (by omega)
  cases e'
  have h1 : (l.head?.map (·.b)).getD false = l[0].b := by
    cases l with
    | nil => simp at hl
    | cons p l => rfl
  have h2 : (l.getLast?.map (·.e)).getD false = (l[l.length - 1]'(by omega)).e := by
    rw [List.getLast?_eq_getElem?, List.getElem?_eq_getElem (by omega)]
    rfl
  have hcl : closed l = (l[0].b && (l[l.length - 1]'(by omega)).e) := by unfold closed; rw [h1, h2]
  have HC := hid hcl
  have hw1 : wrap64 ((l.length : Int) - 1) = ((l.length - 1 : Nat) : Int) := by unfold wrap64; omega
  have hn1 : ((l.length - 1 : Nat) : Int).toNat = l.length - 1 := by omega
  have hb1 : (0 : Int) ≤ ((l.length - 1 : Nat) : Int) ∧ ((l.length - 1 : Nat) : Int) < (l.length : Int) := by omega
  clear h h1 h2 hcl
  cases hb : l[0].b with
  | false =>
    rw [hb] at c3
    have HB := hid hb
    clear hb
    go_enter Try.func86, Try.ntmps86
    go_wp2
    go_ret
    rw [HC.out, HB.out]
    exact ⟨rfl, rfl⟩
  | true =>
    rw [hb] at c3
    have HB := hid hb
    clear hb
    go_enter Try.func86, Try.ntmps86
    go_wp2
    go_ret
    rw [HC.out, HB.out]
    exact ⟨by simp, rfl⟩
end Go.Proofs.Ythoammfpjheodaa.Rz
