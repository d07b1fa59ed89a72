import Derived.Test.YtgbjbmakjilddaaQRebindPlansx0
import Derived.Test.YtgbjbmakjilddaaBase
import Derived.Test.YtgbjbmakjilddaaZn
import Derived.Outline
namespace Go.Proofs.Ytgbjbmakjilddaa.QRebindPlans
open Go.RowKit Go.Proofs.YtgbjbmakjilddaaW.PrintWords Go.Proofs.YtgbjbmakjilddaaW.PrintLast Go.Proofs.YtgbjbmakjilddaaW.PrintMore
open Base (hid slice_of_row ret_bool cell_new1)
def api_Addr_61.f (l0 : List Int) : Option (List Int) := if l0.length < 17592186044416 then some l0 else none
def api_Addr_62.f : List (List Int) → Option (List Int)
  | [a, b] => if a.length + b.length < 17592186044416 then some (a ++ b) else none
  | _ => none
theorem news_of_C {k : IntKind} {w : World} {A : Option Addr} {n : Nat} {xs : List Int} (h : (Kd.int k).C w A n xs) (hn : 0 < n) : ∃ ad, A = some ad ∧ ∀ j u, (xs.map (Value.int k))[j]? = some u → w.cell? (ad.add j) = some u := by
  obtain ⟨ad, e, _⟩ := Kd.at_int h 0 (by omega) (by omega)
  refine ⟨ad, e, fun j u hu => ?_⟩
  have hl : xs.length = n := h.1
  have hj : j < xs.length := by have := (List.getElem?_eq_some_iff.1 hu).1; simpa using this
  obtain ⟨ad', e', hc⟩ := Kd.at_int h (j : Int) (by omega) (by omega)
  rw [e] at e'
  cases e'
  rw [Int.toNat_natCast] at hc
  rw [hc]
  simp [hj, rd] at hu ⊢
  exact hu
theorem one_ints (k : IntKind) (xs : List Int) : ∀ u ∈ xs.map (Value.int k), u.oneCell' = true := by simp [Value.oneCell']
theorem R_of {w : World} {base : Nat} {v : Value} {xs : List Int} (h : w.ownsRow base 53 1 v xs.length (xs.map (Value.int .i64))) : Kd.R (Kd.int .i64) 53 w base (fun _ => True) v xs := Kd.R_of_own (enc := Value.int .i64) (h1 := fun _ => rfl) h (fun _ _ => trivial)
set_option maxRecDepth 100000 in
theorem api_Addr_61.calls (A0 : Option Addr) (c0 : Nat) (l0 : List Int) (r : List Int) (w : World) (hr0 : Kd.C (Kd.int .i64) w A0 l0.length l0) (_hc0 : l0.length ≤ c0) (h : api_Addr_61.f l0 = some r) :
    Calls Try.prog 61 #[.slice A0 l0.length c0] w fun e w' => ∃ v0_ : Value, e = .returned v0_ ∧ Kd.R (Kd.int .i64) 53 w' w.heap.size (fun _ => True) v0_ r ∧ Below w.heap.size w w' := by
  obtain ⟨i0, hi, hz0, hz1, hz2⟩ := info_parts info53
  unfold api_Addr_61.f at h
  split at h
  case isFalse => cases h
  rename_i hlim
  cases h
  cases A0 with
  | none =>
    have hx : l0 = [] := by
      rcases Nat.eq_zero_or_pos l0.length with h | h
      · exact List.eq_nil_of_length_eq_zero h
      · obtain ⟨ad, e, _⟩ := news_of_C hr0 h
        cases e
    subst hx
    have h0 := fun w => Lib.run_eql_slice_nil (P := Try.prog) w 50 53 none 0 c0 0 0 Try.underlying50
    go_enter Try.func61, Try.ntmps61
    go_wp2
    go_ret
    exact ⟨_, rfl, Kd.R_nil _ _ _ _ _, Below.refl _ _⟩
  | some ad =>
    have hnews : ∀ j u, (l0.map (Value.int .i64))[j]? = some u → (w.alloc (.cells #[] 53)).cell? (ad.add j) = some u := by
      intro j u hu
      rcases Nat.eq_zero_or_pos l0.length with h | h
      · have : l0 = [] := List.eq_nil_of_length_eq_zero h
        subst this; simp at hu
      · obtain ⟨ad', e, hc⟩ := news_of_C (Kd.C_alloc hr0 (.cells #[] 53)) h
        cases e
        exact hc j u hu
    have HN := hid hnews
    have h0 := fun w => Lib.run_eql_slice_nil (P := Try.prog) w 50 53 (some ad) l0.length c0 0 0 Try.underlying50
    clear hnews hr0
    go_enter Try.func61, Try.ntmps61
    go_wp2_with (at_builtin; refine wpList_append_own _ rfl _ _ 50 rfl w.heap.size 53 i0 (.int .i64 0) 1 8 Try.underlying50 hi hz0 hz1 hz2 rfl (by decide) _ 0 [] rfl (World.ownsRow_made _ #[] 0 (Nat.le_refl _) (by decide) rfl) ad l0.length c0 (l0.map (Value.int .i64)) rfl (by simp) HN.out (one_ints _ _) ?c3 ?c4 ?c5 ?_)
    case c3 => unfold maxLen; omega
    case c4 => omega
    case c5 => simp
    intro v' w1 hown' hgrow _
    go_wp2
    go_ret
    refine ⟨_, rfl, R_of (by simpa using hown'), (((Below.refl _ w).alloc (Nat.le_refl _) _).grown hgrow (by simp) ?_)⟩
    intro k hk
    simp [Value.ownBlock] at hk
    omega
open Zn in
theorem grow_zero (w : World) : Calls Try.prog 76 #[.slice none 0 0, .int .i64 0] w fun e w' => e = .returned (.slice none 0 0) ∧ w = w' := by
  go_enter Try.func76, Try.ntmps76
  go_wp2
  go_ret
  exact ⟨rfl, rfl⟩
open Zn in
set_option maxRecDepth 100000 in
theorem grow_some (m : Nat) (hm : 0 < m) (hb : m ≤ 17592186044416) (base : Nat) (w : World) (hbase : base ≤ w.heap.size) : Calls Try.prog 76 #[.slice none 0 0, .int .i64 m] w fun e w' => ∃ v, e = .returned v ∧ w'.ownsRow base 53 1 v 0 [] ∧ Below w.heap.size w w' := by
  obtain ⟨i0, hi, hz0, hz1, hz2⟩ := info_parts info53
  have hpos : (0 : Int) < (m : Int) := by omega
  go_enter Try.func76, Try.ntmps76
  go_wp2_with (at_builtin; refine wpList_zeros_nil rfl _ _ 50 3 rfl base 53 i0 (.int .i64 0) 1 8 Try.underlying50 Try.underlying3 hi hz0 hz1 hz2 rfl (by decide) (by decide) .i64 m rfl rfl hm ?c1 ?c2 ?_)
  case c1 => omega
  case c2 => exact hbase
  intro c w1 hown hgrow
  go_wp2
  go_ret
  exact ⟨_, rfl, hown, (Below.refl _ w).grown hgrow (Nat.le_refl _) (fun k hk => by cases hk)⟩

theorem two_cells (w : World) (A0 : Option Addr) (n : Nat) (a b : List Int) (h : Kd.C (Kd.slice 53 (Kd.int .i64)) w A0 n [a, b]) : ∃ ad A1 c1 A2 c2, A0 = some ad ∧ w.cell? (ad.add 0) = some (.slice A1 a.length c1) ∧ w.cell? (ad.add 1) = some (.slice A2 b.length c2) ∧ (Kd.int .i64).C w A1 a.length a ∧ (Kd.int .i64).C w A2 b.length b := by
  have hn : n = 2 := h.1.symm
  subst hn
  obtain ⟨ad, cs, e, _, ⟨A1, c1, rfl, _, k1⟩, hc⟩ := Kd.C_get h [] 0 (by omega) (by omega)
  obtain ⟨ad', cs', e', _, ⟨A2, c2, rfl, _, k2⟩, hc'⟩ := Kd.C_get h [] 1 (by omega) (by omega)
  rw [e] at e'
  cases e'
  exact ⟨ad, A1, c1, A2, c2, e, hc 0 _ rfl, hc' 0 _ rfl, k1, k2⟩
open Zn in
theorem grow_any (m : Nat) (hb : m ≤ 17592186044416) (base : Nat) (w : World) (hbase : base ≤ w.heap.size) : Calls Try.prog 76 #[.slice none 0 0, .int .i64 m] w fun e w' => ∃ v, e = .returned v ∧ w'.ownsRow base 53 1 v 0 [] ∧ Below w.heap.size w w' := by
  rcases Nat.eq_zero_or_pos m with h | h
  · subst h
    refine (grow_zero w).mono ?_
    rintro e w' ⟨rfl, rfl⟩
    exact ⟨_, rfl, World.ownsRow_nil _ _ _ _, Below.refl _ _⟩
  · exact grow_some m h hb base w hbase
theorem grow_at (x : Int) (m : Nat) (hx : x = m) (hb : m ≤ 17592186044416) (base : Nat) (w : World) (hbase : base ≤ w.heap.size) : Calls Try.prog 76 #[.slice none 0 0, .int .i64 x] w fun e w' => ∃ v, e = .returned v ∧ w'.ownsRow base 53 1 v 0 [] ∧ Below w.heap.size w w' := by
  subst hx
  exact grow_any m hb base w hbase
section
variable {P : Program} (w : World)
theorem run_append_src (base : Nat) (t ty e : TypeId) (i : TypeInfo) (z : Value) (bytes : Nat) (ht : P.underlying t = some (.slice e)) (hi : P.info? e = some i) (hz : i.zero = some z)
    (hsize : i.size = 1) (hby : i.bytes = bytes) (hzs : z.cells.size = 1)
    (v : Value) (n : Nat) (xs : List Value) (hown : w.ownsRow base e 1 v n xs)
    (A : Option Addr) (c : Nat) (k : IntKind) (ys : List Int) (hr : (Kd.int k).C w A ys.length ys)
    (h63 : n + ys.length ≤ maxLen) (hbytes : (n + ys.length) * bytes ≤ 140737488355328) (hbase : base ≤ w.heap.size) :
    ∃ v' w', (Builtin.append_ #[t, t] ty #[v, .slice A ys.length c]).run P w = .ok v' w' ∧ w'.ownsRow base e 1 v' (n + ys.length) (xs ++ ys.map (Value.int k)) ∧ w.grownBy w' v.ownBlock := by
  cases A with
  | none =>
    have hx : ys = [] := by
      rcases Nat.eq_zero_or_pos ys.length with h | h
      · exact List.eq_nil_of_length_eq_zero h
      · obtain ⟨ad, e, _⟩ := news_of_C hr h
        cases e
    subst hx
    refine ⟨v, w, ?_, by simpa using hown, ⟨rfl, rfl, rfl, Nat.le_refl _, fun _ _ _ => rfl⟩⟩
    rcases hown.2 with ⟨rfl, rfl⟩ | ⟨g, cap, cur, rfl, _, _, hnc, _⟩
    · simp [Builtin.append_, run_underlying ht, sizeOf, typeInfo, hi, Builtin.lenOf, Builtin.firstCells]
    · simp [Builtin.append_, run_underlying ht, sizeOf, typeInfo, hi, Builtin.lenOf, Builtin.firstCells, hnc, storeCells]
  | some ad =>
    have hnews : ∀ j u, (ys.map (Value.int k))[j]? = some u → w.cell? (ad.add j) = some u := by
      intro j u hu
      rcases Nat.eq_zero_or_pos ys.length with h | h
      · have : ys = [] := List.eq_nil_of_length_eq_zero h
        subst this; simp at hu
      · obtain ⟨ad', e, hc⟩ := news_of_C hr h
        cases e
        exact hc j u hu
    obtain ⟨v', w', hrun, h2, h3, _, _⟩ := run_append_own_at (P := P) w base t ty e i z 1 bytes ht hi hz hsize hby hzs (by decide) v n xs hown ad ys.length c (ys.map (Value.int k)) (by simp) hnews (one_ints _ _) h63 hbytes hbase
    exact ⟨v', w', hrun, h2, h3⟩
theorem wpList_append_src {ops : Array Oper} {rest : List Oper} {o : Oper} {a : Act} {Q : Exit → Act → World → Prop} (hgd : o.guard = none) (s x : Operand) (t : TypeId)
    (ho : o.op = .call { callee := .builtin .append, args := #[s, x], argTypes := #[t, t] })
    (base : Nat) (e : TypeId) (i : TypeInfo) (z : Value) (bytes : Nat) (ht : P.underlying t = some (.slice e)) (hi : P.info? e = some i) (hz : i.zero = some z)
    (hsize : i.size = 1) (hby : i.bytes = bytes) (hzs : z.cells.size = 1)
    (v : Value) (n : Nat) (xs : List Value) (hs : a.eval s = v) (hown : w.ownsRow base e 1 v n xs)
    (A : Option Addr) (c : Nat) (k : IntKind) (ys : List Int) (hx : a.eval x = .slice A ys.length c) (hr : (Kd.int k).C w A ys.length ys)
    (h63 : n + ys.length ≤ maxLen) (hbytes : (n + ys.length) * bytes ≤ 140737488355328) (hbase : base ≤ w.heap.size)
    (h : ∀ v' w', w'.ownsRow base e 1 v' (n + ys.length) (xs ++ ys.map (Value.int k)) → w.grownBy w' v.ownBlock → wpList P ops Q rest (a.put o.dst v') w') : wpList P ops Q (o :: rest) a w := by
  refine wpList_plain hgd fun K hK => ?_
  obtain ⟨v', w', hr, h2, h3⟩ := run_append_src (P := P) w base t o.type e i z bytes ht hi hz hsize hby hzs v n xs hown A c k ys hr h63 hbytes hbase
  unfold Oper.wp execOp
  simp only [ho, resolve, invoke, builtin, Sem.run_bind, Sem.run_pure, Result.andThen_ok, List.map_toArray, List.map_cons, List.map_nil, hs, hx, hr]
  exact hK _ _ (h v' w' h2 h3)
end
theorem below_size {n : Nat} {w w' : World} (h : Below n w w') : w.heap.size ≤ w'.heap.size := h.size
set_option maxRecDepth 100000 in
set_option maxHeartbeats 1600000 in
theorem concat_two (ad : Addr) (c : Nat) (a b : List Int) (A1 A2 : Option Addr) (c1 c2 : Nat) (hlim : a.length + b.length < 17592186044416) (w : World) (k0 : w.cell? ad = some (.slice A1 a.length c1)) (k1 : w.cell? ⟨ad.block, ad.off + 1, none⟩ = some (.slice A2 b.length c2))
    (h1 : (Kd.int .i64).C w A1 a.length a) (h2 : (Kd.int .i64).C w A2 b.length b) :
    Calls Try.prog 62 #[.slice (some ad) 2 c] w fun e w' => ∃ v0_ : Value, e = .returned v0_ ∧ Kd.R (Kd.int .i64) 53 w' w.heap.size (fun _ => True) v0_ (a ++ b) ∧ Below w.heap.size w w' := by
  obtain ⟨i0, hi, hz0, hz1, hz2⟩ := info_parts info53
  have hp : ad.block < w.heap.size := World.block_lt_of_cell? w _ k0
  have hp1 : (⟨ad.block, ad.off + 1, none⟩ : Addr).block < w.heap.size := hp
  have H1 := hid h1
  have H2 := hid h2
  clear h1 h2
  go_enter Try.func62, Try.ntmps62
  go_wp2
  refine wp_loop_rounds 3 ?_
  rw [rounds_succ]
  go_wp2
  rw [rounds_succ]
  go_wp2
  rw [rounds_succ]
  go_wp2_with (go_at_call 76; refine (grow_at _ (a.length + b.length) (by omega) (by omega) w.heap.size _ (Nat.le_refl _)).mono ?_)
  rintro _ w1 ⟨v1, rfl, HO, HB⟩
  have HO := hid HO
  have K1 := hid k1
  have G2 := H2
  have k0' := (HB.cell hp).trans k0
  have k1' := (HB.cell (p := ⟨ad.block, ad.off + 1, none⟩) hp).trans k1
  have H1 := hid (Kd.C_below H1.out HB)
  have H2 := hid (Kd.C_below H2.out HB)
  have hs1 := HB.size
  have HB := hid HB
  clear k0 k1
  go_wp2
  refine wp_loop_rounds 3 ?_
  rw [rounds_succ]
  go_wp2_with (at_builtin; refine wpList_append_src _ rfl _ _ 50 rfl w.heap.size 53 i0 (.int .i64 0) 8 Try.underlying50 hi hz0 hz1 hz2 rfl v1 0 [] rfl HO.out A1 c1 .i64 a rfl H1.out ?c1 ?c2 ?c3 ?_)
  case c1 => unfold maxLen; omega
  case c2 => omega
  case c3 => exact hs1
  intro v2 w2 HO2 hg2
  have hl2 := HO.out.lt
  have hrow : ∀ k, v1.ownBlock = some k → w.heap.size ≤ k := fun k hk => (hl2 k hk).1
  have HB2 := HB.out.grown hg2 hs1 hrow
  have k1'' := (HB2.cell (p := ⟨ad.block, ad.off + 1, none⟩) hp).trans K1.out
  have H2 := hid (Kd.C_below G2.out HB2)
  have hs2 := HB2.size
  have HO2 := hid HO2
  have HB2 := hid HB2
  clear hg2 hl2 hrow k1' HO HB H1
  go_wp2
  rw [rounds_succ]
  go_wp2_with (at_builtin; go_loud (refine wpList_append_src _ rfl _ _ 50 rfl w.heap.size 53 i0 (.int .i64 0) 8 Try.underlying50 hi hz0 hz1 hz2 rfl v2 a.length _ rfl HO2.out A2 c2 .i64 b rfl H2.out ?c1 ?c2 ?c3 ?_))
  case c1 => unfold maxLen; omega
  case c2 => omega
  case c3 => exact hs2
  intro v3 w3 HO3 hg3
  have hl2 := HO2.out.lt
  have hrow : ∀ k, v2.ownBlock = some k → w.heap.size ≤ k := fun k hk => (hl2 k hk).1
  have HB3 := HB2.out.grown hg3 hs2 hrow
  have hs3 := HB3.size
  have HO3 := hid HO3
  have HB3 := hid HB3
  clear hg3 hl2 hrow k1'' HO2 HB2 H2
  go_wp2
  rw [rounds_succ]
  go_wp2
  go_ret
  refine ⟨_, rfl, R_of ?_, HB3.out⟩
  have := HO3.out
  simpa using this
theorem api_Addr_62.some_ {l0 : List (List Int)} {r : List Int} (h : api_Addr_62.f l0 = some r) : ∃ a b, l0 = [a, b] ∧ a.length + b.length < 17592186044416 ∧ r = a ++ b := by
  unfold api_Addr_62.f at h
  split at h
  · split at h
    · cases h
      exact ⟨_, _, rfl, by assumption, rfl⟩
    · cases h
  · cases h
theorem api_Addr_62.calls (A0 : Option Addr) (c0 : Nat) (l0 : List (List Int)) (r : List Int) (w : World) (hr0 : Kd.C (Kd.slice 53 (Kd.int .i64)) w A0 l0.length l0) (_hc0 : l0.length ≤ c0) (h : api_Addr_62.f l0 = some r) :
    Calls Try.prog 62 #[.slice A0 l0.length c0] w fun e w' => ∃ v0_ : Value, e = .returned v0_ ∧ Kd.R (Kd.int .i64) 53 w' w.heap.size (fun _ => True) v0_ r ∧ Below w.heap.size w w' := by
  obtain ⟨a, b, rfl, hlim, rfl⟩ := api_Addr_62.some_ h
  obtain ⟨ad, A1, c1, A2, c2, rfl, k0, k1, h1, h2⟩ := two_cells w A0 _ a b hr0
  exact concat_two ad c0 a b A1 A2 c1 c2 hlim w (by simpa [Addr.add] using k0) (by simpa [Addr.add] using k1) h1 h2
/-! ### weftlineref28.Right -/
def intOf : Value → Int
  | .int _ x => x
  | _ => 0
theorem take_has (l : List Int) (x : Int) (k : Nat) (hk : k < l.length) : x ∈ l.take (k + 1) ↔ x ∈ l.take k ∨ rd l k = x := by
  have : rd l k = l[k] := by simp [rd, hk]
  rw [List.take_succ_eq_append_getElem hk, this, List.mem_append, List.mem_singleton]
  exact or_congr Iff.rfl eq_comm
theorem C_len {k : IntKind} {w : World} {A : Option Addr} {n : Nat} {l : List Int} (h : (Kd.int k).C w A n l) : l.length ≤ 9223372036854775807 := by have h1 := h.1; have h2 := h.2.1; omega
set_option maxRecDepth 100000 in
theorem has_calls (A : Option Addr) (c : Nat) (l : List Int) (n : Nat) (x : Int) (w : World) (hn : n ≤ l.length) (hr : (Kd.int .i64).C w A l.length l) :
    Calls Try.prog 65 #[.slice A n c, .int .i64 x] w fun e w' => e = .returned (.bool (decide (x ∈ l.take n))) ∧ w' = w := by
  have hl := C_len hr
  have HR := hid hr
  clear hr
  go_enter Try.func65, Try.ntmps65
  go_wp2
  go_loop [5] (fun i => ∃ k : Nat, k ≤ n ∧ i = .int .i64 k ∧ ¬ x ∈ l.take k) (fun v => n - (intOf v).toNat)
  case atStart => exact ⟨0, Nat.zero_le _, rfl, by simp⟩
  case round =>
    obtain ⟨k, hk, rfl, hnot⟩ := hrel
    by_cases hlt : k < n
    · obtain ⟨ad, rfl, hc⟩ := Kd.at_int HR.out (k : Int) (by omega) (by omega)
      rw [Int.toNat_natCast] at hc
      have ht := hid (take_has l x k (by omega))
      by_cases hq : rd l k = x
      · have hin : x ∈ l.take n := by
          have h1 : x ∈ l.take (k + 1) := ht.out.2 (.inr hq)
          have : l.take (k + 1) = (l.take n).take (k + 1) := by rw [List.take_take]; congr 1; omega
          rw [this] at h1
          exact List.mem_of_mem_take h1
        have hin := hid hin
        clear hnot
        go_wp2
        go_ret
        exact ⟨ret_bool (by first | rfl | exact (decide_eq_true hin.out).symm), rfl⟩
      · have hn2 : ¬ x ∈ l.take (k + 1) := fun h => (ht.out.1 h).elim hnot hq
        have hn2 := hid hn2
        clear hnot
        go_wp2
        go_round
        case rel => exact ⟨k + 1, by omega, by go_num, hn2.out⟩
        case measure => simp [intOf]; omega
    · obtain rfl : k = n := by omega
      have hnot := hid hnot
      go_wp2
      go_ret
      exact ⟨ret_bool (by first | rfl | exact (decide_eq_false hnot.out).symm), rfl⟩
def addrB (x : Int) : Bool := decide (1 ≤ x) && decide (x ≤ 2147483647)
def hasB (l : List Int) (n : Nat) (x : Int) : Bool := decide (x ∈ l.take n)
theorem addr_calls (x : Int) (w : World) : Calls Try.prog 64 #[.int .i64 x] w fun e w' => e = .returned (.bool (decide (1 ≤ x) && decide (x ≤ 2147483647))) ∧ w' = w := by
  by_cases h1 : 1 ≤ x
  · have hd : decide (1 ≤ x) = true := decide_eq_true h1
    rw [hd]
    go_enter Try.func64, Try.ntmps64
    go_wp2
    go_ret
    exact ⟨ret_bool (by simp), rfl⟩
  · have hd : decide (1 ≤ x) = false := decide_eq_false h1
    rw [hd]
    go_enter Try.func64, Try.ntmps64
    go_wp2
    go_ret
    exact ⟨ret_bool (by simp), rfl⟩
theorem addr_calls' (x : Int) (w : World) : Calls Try.prog 64 #[.int .i64 x] w fun e w' => e = .returned (.bool (addrB x)) ∧ w' = w := addr_calls x w
theorem has_calls' (A : Option Addr) (c : Nat) (l : List Int) (n : Nat) (x : Int) (w : World) (hn : n ≤ l.length) (hr : (Kd.int .i64).C w A l.length l) :
    Calls Try.prog 65 #[.slice A n c, .int .i64 x] w fun e w' => e = .returned (.bool (hasB l n x)) ∧ w' = w := has_calls A c l n x w hn hr
def oneB (a b : List Int) (i : Nat) : Bool := addrB (rd a i) && (addrB (rd b i) && (!hasB a i (rd a i) && (!hasB b i (rd b i) && !hasB a a.length (rd b i))))
def rightB (a b : List Int) : Bool := decide (1 ≤ a.length) && (decide (a.length ≤ 4) && (decide (b.length = a.length) && decide (∀ i, i < a.length → oneB a b i = true)))
def weftlineref28_Right.f (a b : List Int) : Option Bool := some (rightB a b)
set_option maxRecDepth 100000 in
set_option maxHeartbeats 1600000 in
theorem right_calls (A0 : Option Addr) (c0 : Nat) (a : List Int) (A1 : Option Addr) (c1 : Nat) (b : List Int) (w : World) (h0 : (Kd.int .i64).C w A0 a.length a) (g0 : a.length ≤ c0) (h1 : (Kd.int .i64).C w A1 b.length b) (g1 : b.length ≤ c1) :
    Calls Try.prog 33 #[.agg #[.slice A0 a.length c0, .slice A1 b.length c1]] w fun e w' => e = .returned (.bool (rightB a b)) ∧ Below w.heap.size w w' := by
  have l0 := C_len h0
  have l1 := C_len h1
  have H0 := hid h0
  have H1 := hid h1
  clear h0 h1
  by_cases q1 : 1 ≤ a.length
  rotate_left
  · have e : rightB a b = false := by unfold rightB; rw [decide_eq_false q1]; rfl
    rw [e]
    clear e
    go_enter Try.func33, Try.ntmps33
    go_wp2
    go_ret
    exact ⟨rfl, (Below.refl _ w).alloc (Nat.le_refl _) _⟩
  by_cases q2 : a.length ≤ 4
  rotate_left
  · have e : rightB a b = false := by unfold rightB; rw [decide_eq_false q2]; simp
    rw [e]
    clear e
    go_enter Try.func33, Try.ntmps33
    go_wp2
    go_ret
    exact ⟨rfl, (Below.refl _ w).alloc (Nat.le_refl _) _⟩
  by_cases q3 : b.length = a.length
  rotate_left
  · have e : rightB a b = false := by unfold rightB; rw [decide_eq_false q3]; simp
    have q4 : ((b.length : Int) != (a.length : Int)) = true := by rw [bne_iff_ne]; omega
    rw [e]
    clear e
    go_enter Try.func33, Try.ntmps33
    go_wp2
    go_ret
    exact ⟨rfl, (Below.refl _ w).alloc (Nat.le_refl _) _⟩
  have e : rightB a b = decide (∀ i, i < a.length → oneB a b i = true) := by unfold rightB; rw [decide_eq_true q1, decide_eq_true q2, decide_eq_true q3]; rfl
  rw [e]
  clear e
  go_enter Try.func33, Try.ntmps33
  go_wp2
  obtain ⟨wo, hwo⟩ : ∃ wo : World, wo = w.alloc (.cells #[.slice A0 a.length c0, .slice A1 a.length c1] 52) := ⟨_, rfl⟩
  rw [← hwo]
  have k0 : wo.cell? ⟨w.heap.size, 0, none⟩ = some (.slice A0 a.length c0) := by rw [hwo, cell_new1 _ _ _ _ rfl]; rfl
  have k1 : wo.cell? ⟨w.heap.size, 1, none⟩ = some (.slice A1 a.length c1) := by rw [hwo, cell_new1 _ _ _ _ rfl]; rfl
  have HB := hid ((Below.refl _ w).alloc (Nat.le_refl _) (.cells #[.slice A0 a.length c0, .slice A1 a.length c1] 52))
  have H0 := hid (Kd.C_alloc H0.out (.cells #[.slice A0 a.length c0, .slice A1 a.length c1] 52))
  have H1 := hid (Kd.C_alloc H1.out (.cells #[.slice A0 a.length c0, .slice A1 a.length c1] 52))
  rw [← hwo] at HB H0 H1
  clear hwo
  go_loopw [3] (fun i wr => ∃ k : Nat, k ≤ a.length ∧ i = .int .i64 k ∧ wr.cell? ⟨w.heap.size, 0, none⟩ = some (.slice A0 a.length c0) ∧ wr.cell? ⟨w.heap.size, 1, none⟩ = some (.slice A1 a.length c1) ∧ Hid (Below w.heap.size w wr) ∧ Hid ((Kd.int .i64).C wr A0 a.length a) ∧ Hid ((Kd.int .i64).C wr A1 b.length b) ∧ ∀ j, j < k → oneB a b j = true) (fun v _ => a.length - (intOf v).toNat)
  case atStart => exact ⟨0, Nat.zero_le _, rfl, k0, k1, HB, H0, H1, fun j hj => absurd hj (by omega)⟩
  case round =>
    clear k0 k1 HB H0 H1
    obtain ⟨k, hk, rfl, k0, k1, HB, H0, H1, hall⟩ := hrel
    by_cases hlt : k < a.length
    · obtain ⟨ad, rfl, hc⟩ := Kd.at_int H0.out (k : Int) (by omega) (by omega)
      obtain ⟨bd, rfl, hd⟩ := Kd.at_int H1.out (k : Int) (by omega) (by omega)
      rw [Int.toNat_natCast] at hc hd
      by_cases hone : oneB a b k = true
      · have hall2 : ∀ j, j < k + 1 → oneB a b j = true := fun j hj => by
          rcases Nat.lt_or_ge j k with h | h
          · exact hall j h
          · obtain rfl : j = k := by omega
            exact hone
        have hall2 := hid hall2
        have hone := hone
        unfold oneB at hone
        simp only [Bool.and_eq_true, Bool.not_eq_true'] at hone
        obtain ⟨t1, t2, t3, t4, t5⟩ := hone
        clear hall
        go_wp2
        go_quiet (first
          | (go_at_call 64; exact Calls.quiet_of_same (addr_calls' _ _))
          | (go_at_call 65; exact Calls.quiet_of_same (has_calls' _ _ _ _ _ _ (by omega) (Kd.C_drewN H0.out _)))
          | (go_at_call 65; exact Calls.quiet_of_same (has_calls' _ _ _ _ _ _ (by omega) (Kd.C_drewN H1.out _))))
        go_wp2
        go_roundw
        case rel => exact ⟨k + 1, by omega, by go_num, by rw [World.cell?_drewN]; exact k0, by rw [World.cell?_drewN]; exact k1, hid ⟨HB.out.os, HB.out.tape, HB.out.output, HB.out.size, HB.out.block⟩, hid (Kd.C_drewN H0.out _), hid (Kd.C_drewN H1.out _), hall2.out⟩
        case measure => simp [intOf]; omega
      · have hno : ¬ ∀ j, j < a.length → oneB a b j = true := fun h => hone (h k hlt)
        have hno := hid hno
        clear hall
        rcases Bool.eq_false_or_eq_true (addrB (rd a k)) with e0 | e0
        rotate_left
        · skip
          clear hone
          go_wp2
          go_quiet (first
            | (go_at_call 64; exact Calls.quiet_of_same (addr_calls' _ _))
            | (go_at_call 65; exact Calls.quiet_of_same (has_calls' _ _ _ _ _ _ (by omega) (Kd.C_drewN H0.out _)))
            | (go_at_call 65; exact Calls.quiet_of_same (has_calls' _ _ _ _ _ _ (by omega) (Kd.C_drewN H1.out _))))
          go_wp2
          go_ret
          exact ⟨ret_bool (decide_eq_false hno.out).symm, HB.out.os, HB.out.tape, HB.out.output, HB.out.size, HB.out.block⟩
        rcases Bool.eq_false_or_eq_true (addrB (rd b k)) with e1 | e1
        rotate_left
        · skip
          clear hone
          go_wp2
          go_quiet (first
            | (go_at_call 64; exact Calls.quiet_of_same (addr_calls' _ _))
            | (go_at_call 65; exact Calls.quiet_of_same (has_calls' _ _ _ _ _ _ (by omega) (Kd.C_drewN H0.out _)))
            | (go_at_call 65; exact Calls.quiet_of_same (has_calls' _ _ _ _ _ _ (by omega) (Kd.C_drewN H1.out _))))
          go_wp2
          go_ret
          exact ⟨ret_bool (decide_eq_false hno.out).symm, HB.out.os, HB.out.tape, HB.out.output, HB.out.size, HB.out.block⟩
        rcases Bool.eq_false_or_eq_true (hasB a k (rd a k)) with e2 | e2
        · skip
          clear hone
          go_wp2
          go_quiet (first
            | (go_at_call 64; exact Calls.quiet_of_same (addr_calls' _ _))
            | (go_at_call 65; exact Calls.quiet_of_same (has_calls' _ _ _ _ _ _ (by omega) (Kd.C_drewN H0.out _)))
            | (go_at_call 65; exact Calls.quiet_of_same (has_calls' _ _ _ _ _ _ (by omega) (Kd.C_drewN H1.out _))))
          go_wp2
          go_ret
          exact ⟨ret_bool (decide_eq_false hno.out).symm, HB.out.os, HB.out.tape, HB.out.output, HB.out.size, HB.out.block⟩
        rcases Bool.eq_false_or_eq_true (hasB b k (rd b k)) with e3 | e3
        · skip
          clear hone
          go_wp2
          go_quiet (first
            | (go_at_call 64; exact Calls.quiet_of_same (addr_calls' _ _))
            | (go_at_call 65; exact Calls.quiet_of_same (has_calls' _ _ _ _ _ _ (by omega) (Kd.C_drewN H0.out _)))
            | (go_at_call 65; exact Calls.quiet_of_same (has_calls' _ _ _ _ _ _ (by omega) (Kd.C_drewN H1.out _))))
          go_wp2
          go_ret
          exact ⟨ret_bool (decide_eq_false hno.out).symm, HB.out.os, HB.out.tape, HB.out.output, HB.out.size, HB.out.block⟩
        rcases Bool.eq_false_or_eq_true (hasB a a.length (rd b k)) with e4 | e4
        · skip
          clear hone
          go_wp2
          go_quiet (first
            | (go_at_call 64; exact Calls.quiet_of_same (addr_calls' _ _))
            | (go_at_call 65; exact Calls.quiet_of_same (has_calls' _ _ _ _ _ _ (by omega) (Kd.C_drewN H0.out _)))
            | (go_at_call 65; exact Calls.quiet_of_same (has_calls' _ _ _ _ _ _ (by omega) (Kd.C_drewN H1.out _))))
          go_wp2
          go_ret
          exact ⟨ret_bool (decide_eq_false hno.out).symm, HB.out.os, HB.out.tape, HB.out.output, HB.out.size, HB.out.block⟩
        exact absurd (by unfold oneB; rw [e0, e1, e2, e3, e4]; rfl) hone
    · obtain rfl : k = a.length := by omega
      have hall := hid hall
      go_wp2
      go_ret
      exact ⟨ret_bool (decide_eq_true hall.out).symm, HB.out⟩
theorem weftlineref28_Right.calls (A0_0 : Option Addr) (c0_0 : Nat) (l0_0 : List Int) (A0_1 : Option Addr) (c0_1 : Nat) (l0_1 : List Int) (r : Bool) (w : World) (hr0_0 : Kd.C (Kd.int .i64) w A0_0 l0_0.length l0_0) (hc0_0 : l0_0.length ≤ c0_0) (hr0_1 : Kd.C (Kd.int .i64) w A0_1 l0_1.length l0_1) (hc0_1 : l0_1.length ≤ c0_1) (h : weftlineref28_Right.f l0_0 l0_1 = some r) :
    Calls Try.prog 33 #[.agg #[.slice A0_0 l0_0.length c0_0, .slice A0_1 l0_1.length c0_1]] w fun e w' => e = .returned (.bool r) ∧ Below w.heap.size w w' := by
  cases h
  exact right_calls A0_0 c0_0 l0_0 A0_1 c0_1 l0_1 w hr0_0 hc0_0 hr0_1 hc0_1
end Go.Proofs.Ytgbjbmakjilddaa.QRebindPlans
