import Derived.Test.YthoammfpjheodaaRaLaw
import Derived.Deep.DeepCutAuto
import Derived.Deep.CutBlock
namespace Go.Proofs.Ythoammfpjheodaa.Rz
open Go.ChangeShapes Go.WideShapes Go.ChangeAt Go.RowKit Go.Shelf MK Go.Joins
open Base (hid cell_new1 cell_old1 froz_new1 froz_old1)
attribute [local go_sem] Oper.semAt_some
set_option linter.unusedVariables false
set_option linter.unusedSimpArgs false
set_option maxRecDepth 100000
/-! the document's Part -/
theorem bk_le {m : List Pm} : ∀ (n : Nat) (p : Pm), (bk m n p).length ≤ n
  | 0, _ => Nat.le_refl _
  | n + 1, p => by
    rw [bk]
    split
    · exact Nat.zero_le _
    · split
      · exact Nat.zero_le _
      · split
        · exact Nat.zero_le _
        · rw [List.length_append, List.length_singleton]
          have := bk_le n (m := m) ‹Pm›
          omega
theorem bk_mem {m : List Pm} : ∀ (n : Nat) (p : Pm), ∀ a ∈ bk m n p, a ∈ m
  | 0, _, a, h => by cases h
  | n + 1, p, a, h => by
    rw [bk] at h
    split at h
    · cases h
    · split at h
      · cases h
      · rename_i q hl
        split at h
        · cases h
        · rcases List.mem_append.1 h with h | h
          · exact bk_mem n q a h
          · rw [List.mem_singleton.1 h]; exact (look_mem hl).1
theorem wrap_down (t : Int) : IntKind.u32.wrap (t - 1) = step t (-1) := by
  have h : ∀ x, IntKind.u32.wrap x = x % 4294967296 := fun _ => rfl
  rw [h]; rfl
theorem wrap_up (t : Int) : IntKind.u32.wrap (t + 1) = step t 1 := by
  have h : ∀ x, IntKind.u32.wrap x = x % 4294967296 := fun _ => rfl
  rw [h]; rfl
/-- A source of pieces. -/
structure Src (w : World) (A : Option Addr) (c : Nat) (l : List Pm) : Prop where
  cells : ∀ j u, (cellsP l)[j]? = some u → ∃ ad, A = some ad ∧ w.cell? (ad.add j) = some u
  nil : A = none → c = 0
theorem cellsP_split {l : List Pm} {j : Nat} {u : Value} (h : (cellsP l)[j]? = some u) : ∃ (i k : Nat) (hi : i < l.length) (hk : k < 7), j = i * 7 + k ∧ u = l[i].cells[k]'hk := by
  have hj : j < l.length * 7 := by rw [← cellsP_len]; exact (List.getElem?_eq_some_iff.1 h).1
  have hi : j / 7 < l.length := by omega
  have hk : j % 7 < 7 := Nat.mod_lt _ (by decide)
  have := cellsP_get l (j / 7) (j % 7) hi hk
  rw [show j / 7 * 7 + j % 7 = j by omega, h] at this
  exact ⟨j / 7, j % 7, hi, hk, by omega, Option.some.inj this⟩
theorem InR.src {w : World} {A : Option Addr} {c : Nat} {l : List Pm} (h : InR w A c l) : Src w A c l :=
  ⟨fun j u hj => by
    obtain ⟨i, k, hi, hk, rfl, rfl⟩ := cellsP_split hj
    obtain ⟨ad, e, _, hc⟩ := h.cells i hi
    exact ⟨ad, e, hc k hk⟩, h.nil⟩
theorem Row.src {w : World} {B : Nat} {A : Option Addr} {c : Nat} {l : List Pm} (h : Row w B A c l) : Src w A c l :=
  ⟨fun j u hj => by
    obtain ⟨i, k, hi, hk, rfl, rfl⟩ := cellsP_split hj
    obtain ⟨g, e, _, _, hc⟩ := h.at i hi
    exact ⟨_, e, by rw [add0]; exact hc k hk⟩, fun e => by subst e; exact nil_row h⟩
theorem blk_lt {w : World} {a : Addr} {n : Nat} {v : Value} (h : w.cell? (a.add n) = some v) : a.block < w.heap.size := by
  rcases Nat.lt_or_ge a.block w.heap.size with hb | hb
  · exact hb
  · unfold World.cell? at h
    rw [add_block, Array.getElem?_eq_none hb] at h
    simp at h
theorem Src.below {w w' : World} {A : Option Addr} {c : Nat} {l : List Pm} (h : Src w A c l) (hb : Below w.heap.size w w') : Src w' A c l :=
  ⟨fun j u hj => by
    obtain ⟨ad, e, hc⟩ := h.cells j u hj
    refine ⟨ad, e, (hb.cell (p := ad.add j) ?_).trans hc⟩
    rw [add_block]
    exact blk_lt hc, h.nil⟩
theorem Src.one {w : World} {b : Nat} {p : Pm} (h : Box w b p) : Src w (some ⟨b, 0, none⟩) 1 [p] :=
  ⟨fun j u hj => by
    obtain ⟨i, k, hi, hk, rfl, rfl⟩ := cellsP_split hj
    obtain rfl : i = 0 := by simp at hi; exact hi
    refine ⟨_, rfl, ?_⟩
    rw [add0, Nat.zero_mul, Nat.zero_add]
    exact h.fn k hk, fun e => by cases e⟩
theorem Row.made' (w : World) (p : Pm) (k : Nat) (hk : k = w.heap.size) : Row (w.alloc (.cells #[.int .u32 p.t, .int .u16 p.s, .int .u16 p.q, .bool p.b, .bool p.e, .bool p.u, .slice p.A p.x.length p.c] 40)) k (some ⟨k, 0, none⟩) 1 [p] := by
  subst hk
  exact Row.made w p
theorem Box.new' (w : World) (p : Pm) (k : Nat) (hk : k = w.heap.size) : Box (w.alloc (.cells #[.int .u32 p.t, .int .u16 p.s, .int .u16 p.q, .bool p.b, .bool p.e, .bool p.u, .slice p.A p.x.length p.c] 40)) k p := by
  subst hk
  exact Box.new w p
theorem wpList_app_pm {ops : Array Oper} {rest : List Oper} {o : Oper} {a : Go.Act} {w : World} {Q : Exit → Go.Act → World → Prop} (hgd : o.guard = none) (s x : Operand)
    (ho : o.op = .call { callee := .builtin .append, args := #[s, x], argTypes := #[31, 31] }) (base : Nat) (A : Option Addr) (c : Nat) (l : List Pm) (n : Nat) (hn : n = l.length) (hs : a.eval s = .slice A n c) (hown : Row w base A c l)
    (A2 : Option Addr) (m c2 : Nat) (l2 : List Pm) (hm : m = l2.length) (hx : a.eval x = .slice A2 m c2) (hr : Src w A2 c2 l2) (hnm : n + m ≤ 1000000000) (hbase : base ≤ w.heap.size)
    (h : ∀ A' c' w', Row w' base A' c' (l ++ l2) → w.grownBy w' (Value.slice A n c).ownBlock → ((Value.slice A' (n + m) c').ownBlock = (Value.slice A n c).ownBlock ∨ (Value.slice A' (n + m) c').ownBlock = some w.heap.size) → wpList Try.prog ops Q rest (a.put o.dst (.slice A' (n + m) c')) w') :
    wpList Try.prog ops Q (o :: rest) a w := by
  obtain ⟨i0, hi, hi0, hi1, hi2⟩ := info_parts info40
  subst hn hm
  have hlen : (l ++ l2).length = l.length + l2.length := List.length_append
  cases A2 with
  | none =>
    have hl : l2 = [] := by
      cases l2 with
      | nil => rfl
      | cons y l2 =>
        obtain ⟨ad, e, _⟩ := hr.cells 0 (.int .u32 y.t) rfl
        cases e
    subst hl
    obtain rfl : c2 = 0 := hr.nil rfl
    exact wpList_append_own_none hgd s x 31 ho base 40 i0 7 Try.underlying31 hi (.slice A l.length c) l.length (cellsP l) hs hown hx (h A c w (by rw [List.append_nil]; exact hown) (World.grownBy.refl _ _) (.inl rfl))
  | some ad =>
    refine wpList_append_own_at w hgd s x 31 ho base 40 i0 zP 7 40 Try.underlying31 hi hi0 hi1 hi2 rfl (by decide) (.slice A l.length c) l.length (cellsP l) hs hown ad l2.length c2 (cellsP l2) hx (cellsP_len l2) (fun j u hj => ?_) (cellsP_one _) (by unfold maxLen; omega) (by omega) hbase (fun v' w' h1 h2 _ h4 => ?_)
    · obtain ⟨ad', e, hc⟩ := hr.cells j u hj
      cases e
      exact hc
    · obtain ⟨A', c', rfl, _⟩ := Base.slice_of_row h1
      refine h A' c' w' ?_ h2 h4
      unfold Row
      rw [cellsP_app, hlen]
      exact h1
set_option maxHeartbeats 2000000 in
theorem rpart_calls (w : World) (A : Option Addr) (c : Nat) (r : List Pm) (p : Pm) (h : InR w A c r) (hu : U32 p.t) (hm : r.length ≤ 1000000) :
    Calls Try.prog 87 #[.slice A r.length c, p.val] w fun e w' => ∃ A' c', e = .returned (.slice A' (rpart r p).length c') ∧ Row w' w.heap.size A' c' (rpart r p) ∧ Below w.heap.size w w' := by
  obtain ⟨i0, hi, hi0, hi1, hi2⟩ := info_parts info40
  have H := hid h
  have HU := hid hu
  clear h hu
  obtain ⟨K, hK⟩ : ∃ K, K = bk r (r.length + 1) p ++ [p] := ⟨_, rfl⟩
  have hres : rpart r p = K ++ fwd r (r.length + 1) p := by rw [hK]; rfl
  have hKl : K.length ≤ r.length + 2 := by rw [hK, List.length_append, List.length_singleton]; have := bk_le (m := r) (r.length + 1) p; omega
  rw [hres]
  have HK := hid hK
  have HKL := hid hKl
  clear hK hres hKl
  rw [show p.val = .agg #[.int .u32 p.t, .int .u16 p.s, .int .u16 p.q, .bool p.b, .bool p.e, .bool p.u, .slice p.A p.x.length p.c] from rfl]
  go_enter Try.func87, Try.ntmps87
  go_upto_block 0 with fail
  go_cut [5] (fun v5 wx => ∃ (A5 : Option Addr) (c5 : Nat), v5 = .slice A5 K.length c5 ∧ Hid (Row wx w.heap.size A5 c5 K) ∧ Hid (Below w.heap.size w wx))
  case first =>
    go_wp2_with fail
    go_loopw [5] (fun v5 wr => ∃ (j : Nat) (q : Pm) (L : List Pm) (A5 : Option Addr) (c5 : Nat), v5 = .slice A5 L.length c5 ∧ j ≤ r.length + 1 ∧ Hid (RBack r p j q L) ∧ Hid (Row wr w.heap.size A5 c5 L) ∧ Hid (Below w.heap.size w wr)) (fun v5 _ => r.length + 2 - lenV v5)
    case atStart =>
      refine ⟨0, p, [p], _, 1, rfl, by omega, hid (RBack.zero HU.out), ?_, hid (below_alloc (below_alloc (Below.refl _ _) _) _)⟩
      exact hid (own_low (Row.made' _ p _ (by simp)) (by omega))
    case round =>
      obtain ⟨j, q, L, A5, c5, rfl, hj, HA, HR, HW⟩ := hrel
      have hj1 := HA.out.lt (by omega) hj
      have HLL := hid HA.out.len
      have hl1 : 0 < L.length := by have := HA.out.len; omega
      have hl6 : L.length ≤ 1000001 := by have := HA.out.len; omega
      obtain ⟨g, rfl, hg0, hg1, c0, c1, c2, c3, c4, c5', c6⟩ := HR.out.cells 0 hl1
      have hq0 : L[0] = q := by
        have := HA.out.head
        rw [List.head?_eq_getElem?, List.getElem?_eq_getElem hl1] at this
        exact Option.some.inj this
      rw [hq0] at c0 c1 c2 c3 c4 c5' c6
      have hz0 := HW.out.size
      have HST : Hid (∀ (hs : q.b = true ∨ ∀ q', look r (step q.t (-1)) = some q' → q'.e = true), K = L) := hid (fun hs => by
        rw [HK.out]
        exact HA.out.stop hj1 hs)
      have hwd := wrap_down q.t
      clear hq0
      cases hb : q.b with
      | true =>
        rw [hb] at c3
        have e := HST.out (.inl hb)
        subst e
        clear hb
        go_wp2
        go_meet
        case rel => exact ⟨_, _, rfl, HR, HW⟩
      | false =>
        rw [hb] at c3
        have hg := get_calls wr A c r (step q.t (-1)) (H.out.below HW.out)
        cases hq : look r (step q.t (-1)) with
        | none =>
          rw [hq] at hg
          simp only [Option.map_none, Option.getD_none, Option.isSome_none, Pm.val, p0, List.length_nil] at hg
          have e := HST.out (.inr fun q' h' => by rw [hq] at h'; cases h')
          subst e
          have HG := hid hg
          clear hg hq hb
          go_wp2_with (go_at_call 102; go_must (refine HG.out.mono ?_; rintro e w1 ⟨rfl, hb1⟩; have HB1 := hid hb1; clear hb1))
          go_meet
          case rel => exact ⟨_, _, rfl, hid (HR.out.below (below_step (a := wr) HB1.out (below_alloc (Below.refl _ _) _))), hid (below_step HW.out (below_step HB1.out (below_alloc (Below.refl _ _) _)))⟩
        | some q' =>
          rw [hq] at hg
          simp only [Option.map_some, Option.getD_some, Option.isSome_some, Pm.val] at hg
          cases he : q'.e with
          | true =>
            have e := HST.out (.inr fun q2 h' => by rw [hq] at h'; cases h'; exact he)
            subst e
            rw [he] at hg
            have HG := hid hg
            clear hg hq hb he
            go_wp2_with (go_at_call 102; go_must (refine HG.out.mono ?_; rintro e w1 ⟨rfl, hb1⟩; have HB1 := hid hb1; clear hb1))
            go_meet
            case rel => exact ⟨_, _, rfl, hid (HR.out.below (below_step (a := wr) HB1.out (below_alloc (Below.refl _ _) _))), hid (below_step HW.out (below_step HB1.out (below_alloc (Below.refl _ _) _)))⟩
          | false =>
            have hA2 := HA.out.go hj1 hb hq he
            rw [he] at hg
            have HG := hid hg
            have HE := hid he
            have HA2 := hid hA2
            clear hg hq hb he hA2 HST
            have hlen2 : (q' :: L).length = 1 + L.length := by simp; omega
            have HL2 := hid hlen2
            clear hlen2
            go_wp2_with (first
              | (go_at_call 102; go_must (refine HG.out.mono ?_; rintro e w1 ⟨rfl, hb1⟩; have HB1 := hid hb1; have hz1 := hb1.size; clear hb1))
              | (at_builtin; go_must (refine wpList_app_pm rfl _ _ rfl w.heap.size (some ⟨w1.heap.size + 1, 0, none⟩) 1 [q'] 1 rfl rfl (own_low (B := w.heap.size) (B' := w1.heap.size + 1) (by have := Row.made' (w1.alloc (.cells #[.int .u32 q'.t, .int .u16 q'.s, .int .u16 q'.q, .bool q'.b, .bool false, .bool q'.u, .slice q'.A q'.x.length q'.c] 40)) q' (w1.heap.size + 1) (by simp); rw [HE.out] at this; exact this) (by omega)) (some ⟨g, 0, none⟩) L.length c5 L rfl rfl ((HR.out.below (below_step (below_step HB1.out (below_alloc (Below.refl _ _) _)) (below_alloc (Below.refl _ _) _))).src) (by omega) (by simp; omega) ?_)))
            intro A2 c2 w2 hr2 hg2 _
            have hW2 : Below w.heap.size w w2 := by
              have hb0 : Below w.heap.size w w1 := HW.out.trans (HB1.out.mono hz0)
              exact (below_alloc (below_alloc hb0 _) _).grown hg2 (by simp; omega) (fun k e => by simp [Value.ownBlock] at e; omega)
            have HR2 := hid hr2
            have HW2 := hid hW2
            clear hr2 hg2 hW2
            go_wp2
            go_roundw
            case rel => exact ⟨j + 1, q', q' :: L, A2, c2, by rw [HL2.out], by omega, HA2, HR2, HW2⟩
            case measure =>
              have := HLL.out
              simp [lenV]
              omega
  case rest =>
    obtain ⟨A0, c0, rfl, HR0, HW0⟩ := hcut
    have HKlast : Hid (K.getLast? = some p) := hid (by rw [HK.out]; simp)
    have HKmem : Hid (∀ a ∈ K, a ∈ r ∨ a = p) := hid (by
      intro a ha
      rw [HK.out] at ha
      rcases List.mem_append.1 ha with h | h
      · exact .inl (bk_mem _ _ a h)
      · exact .inr (List.mem_singleton.1 h))
    go_wp2_with fail
    go_loopw [5] (fun v5 wr => ∃ (j : Nat) (q : Pm) (L : List Pm) (A5 : Option Addr) (c5 : Nat), v5 = .slice A5 L.length c5 ∧ j ≤ r.length + 1 ∧ Hid (RFwd r p K j q L) ∧ Hid (Row wr w.heap.size A5 c5 L) ∧ Hid (Below w.heap.size w wr)) (fun v5 _ => r.length + 1 + K.length - lenV v5)
    case atStart => exact ⟨0, p, K, A0, c0, rfl, by omega, hid (RFwd.zero HU.out HKlast.out HKmem.out), HR0, HW0⟩
    case round =>
      obtain ⟨j, q, L, A5, c5, rfl, hj, HA, HR, HW⟩ := hrel
      have hj1 := HA.out.lt (by omega) hj
      have HLL := hid HA.out.len
      have hl1 : 0 < L.length := by
        have h1 := HA.out.last
        cases L with
        | nil => cases h1
        | cons a L => simp
      have hl6 : L.length ≤ 2000010 := by have := HA.out.len; have := HKL.out; omega
      obtain ⟨g, rfl, hg0, hg1, c0, c1, c2, c3, c4, c5', c6⟩ := HR.out.cells (L.length - 1) (by omega)
      have hq0 : L[L.length - 1] = q := by
        have := HA.out.last
        rw [List.getLast?_eq_getElem?, List.getElem?_eq_getElem (by omega)] at this
        exact Option.some.inj this
      rw [hq0] at c0 c1 c2 c3 c4 c5' c6
      have hw1 : wrap64 ((L.length : Int) - 1) = ((L.length - 1 : Nat) : Int) := by unfold wrap64; omega
      have hn1 : ((L.length - 1 : Nat) : Int).toNat = L.length - 1 := by omega
      have hb1 : (0 : Int) ≤ ((L.length - 1 : Nat) : Int) ∧ ((L.length - 1 : Nat) : Int) < (L.length : Int) := by omega
      have hz0 := HW.out.size
      have HST : Hid (∀ (hs : q.e = true ∨ ∀ q', look r (step q.t 1) = some q' → q'.b = true), K ++ fwd r (r.length + 1) p = L) := hid (fun hs => HA.out.stop hj1 hs)
      have hwu := wrap_up q.t
      clear hq0
      cases he : q.e with
      | true =>
        rw [he] at c4
        have e := hid (HST.out (.inl he))
        clear he
        go_wp2
        go_ret
        rw [e.out]
        exact ⟨_, _, rfl, HR.out, HW.out⟩
      | false =>
        rw [he] at c4
        have hg := get_calls wr A c r (step q.t 1) (H.out.below HW.out)
        cases hq : look r (step q.t 1) with
        | none =>
          rw [hq] at hg
          simp only [Option.map_none, Option.getD_none, Option.isSome_none, Pm.val, p0, List.length_nil] at hg
          have e := hid (HST.out (.inr fun q' h' => by rw [hq] at h'; cases h'))
          have HG := hid hg
          clear hg hq he
          go_wp2_with (go_at_call 102; go_must (refine HG.out.mono ?_; rintro e w1 ⟨rfl, hb1⟩; have HB1 := hid hb1; clear hb1))
          go_ret
          rw [e.out]
          exact ⟨_, _, rfl, HR.out.below (below_step (a := wr) HB1.out (below_alloc (Below.refl _ _) _)), below_step HW.out (below_step HB1.out (below_alloc (Below.refl _ _) _))⟩
        | some q' =>
          rw [hq] at hg
          simp only [Option.map_some, Option.getD_some, Option.isSome_some, Pm.val] at hg
          cases hb : q'.b with
          | true =>
            have e := hid (HST.out (.inr fun q2 h' => by rw [hq] at h'; cases h'; exact hb))
            rw [hb] at hg
            have HG := hid hg
            clear hg hq hb he
            go_wp2_with (go_at_call 102; go_must (refine HG.out.mono ?_; rintro e w1 ⟨rfl, hb1⟩; have HB1 := hid hb1; clear hb1))
            go_ret
            rw [e.out]
            exact ⟨_, _, rfl, HR.out.below (below_step (a := wr) HB1.out (below_alloc (Below.refl _ _) _)), below_step HW.out (below_step HB1.out (below_alloc (Below.refl _ _) _))⟩
          | false =>
            have hA2 := HA.out.go hj1 he hq hb
            rw [hb] at hg
            have HG := hid hg
            have HE := hid hb
            have HA2 := hid hA2
            clear hg hq hb he hA2 HST
            have hlen2 : (L ++ [q']).length = L.length + 1 := by simp
            have HL2 := hid hlen2
            clear hlen2
            go_wp2_with (first
              | (go_at_call 102; go_must (refine HG.out.mono ?_; rintro e w1 ⟨rfl, hb1⟩; have HB1 := hid hb1; have hz1 := hb1.size; clear hb1))
              | (at_builtin; go_must (refine wpList_app_pm rfl _ _ rfl w.heap.size (some ⟨g, 0, none⟩) c5 L L.length rfl rfl (HR.out.below (below_step (below_step HB1.out (below_alloc (Below.refl _ _) _)) (below_alloc (Below.refl _ _) _))) (some ⟨w1.heap.size + 1, 0, none⟩) 1 1 [q'] rfl rfl (by have := (Row.made' (w1.alloc (.cells #[.int .u32 q'.t, .int .u16 q'.s, .int .u16 q'.q, .bool false, .bool q'.e, .bool q'.u, .slice q'.A q'.x.length q'.c] 40)) q' (w1.heap.size + 1) (by simp)).src; rw [HE.out] at this; exact this) (by omega) (by simp; omega) ?_)))
            intro A2 c2 w2 hr2 hg2 _
            have hW2 : Below w.heap.size w w2 := by
              have hb0 : Below w.heap.size w w1 := HW.out.trans (HB1.out.mono hz0)
              exact (below_alloc (below_alloc hb0 _) _).grown hg2 (by simp; omega) (fun k e => by simp [Value.ownBlock] at e; omega)
            have HR2 := hid hr2
            have HW2 := hid hW2
            clear hr2 hg2 hW2
            go_wp2
            go_roundw
            case rel => exact ⟨j + 1, q', L ++ [q'], A2, c2, by rw [HL2.out], by omega, HA2, HR2, HW2⟩
            case measure =>
              have := HLL.out
              simp [lenV]
              omega
end Go.Proofs.Ythoammfpjheodaa.Rz
