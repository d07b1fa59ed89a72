import Derived.Test.YtnlhlffciigcnaaQFragx0
import Derived.Test.YtnlhlffciigcnaaLeftWalk
import Derived.Outline
namespace Go.Proofs.Ytnlhlffciigcnaa.QFrag
open Go.RowKit Go.Proofs.YtnlhlffciigcnaaW.PrintWords Go.Proofs.YtnlhlffciigcnaaW.PrintLast Go.Proofs.YtnlhlffciigcnaaW.PrintMore Go.ChangeShapes Go.WideShapes Go.ChangeAt Go.Shelf
open Base (hid slice_of_row ret_bool cell_new1 cell_old1 froz_new1 froz_old1)
open It (FW Keep)
attribute [local go_sem] Oper.semAt_some
def slices_Clone_byte_byte.f (l0 : List Int) : Option (List Int) := if l0.length < 70368744177664 then some l0 else none
theorem news_of_C {k : IntKind} {w : World} {A : Option Addr} {n : Nat} {xs : List Int} (h : (Kd.int k).C w A n xs) (hn : 0 < n) : ∃ ad, A = some ad ∧ ∀ j u, (xs.map (Value.int k))[j]? = some u → w.cell? (ad.add j) = some u := by
  obtain ⟨ad, e, _⟩ := Kd.at_int h 0 (by omega) (by omega)
  refine ⟨ad, e, fun j u hu => ?_⟩
  have hl : xs.length = n := h.1
  have hj : j < xs.length := by have := (List.getElem?_eq_some_iff.1 hu).1; simpa using this
  obtain ⟨ad', e', hc⟩ := Kd.at_int h (j : Int) (by omega) (by omega)
  rw [e] at e'
  cases e'
  rw [Int.toNat_natCast] at hc
  rw [hc]
  simp [hj, rd] at hu ⊢
  exact hu
theorem one_ints (k : IntKind) (xs : List Int) : ∀ u ∈ xs.map (Value.int k), u.oneCell' = true := by simp [Value.oneCell']
theorem R_of {w : World} {base : Nat} {v : Value} {xs : List Int} (h : w.ownsRow base 5 1 v xs.length (xs.map (Value.int .u8))) : Kd.R (Kd.int .u8) 5 w base (fun _ => True) v xs := Kd.R_of_own (enc := Value.int .u8) (h1 := fun _ => rfl) h (fun _ _ => trivial)
set_option maxRecDepth 100000 in
theorem slices_Clone_byte_byte.calls (A0 : Option Addr) (c0 : Nat) (l0 : List Int) (r : List Int) (w : World) (hr0 : Kd.C (Kd.int .u8) w A0 l0.length l0) (_hc0 : l0.length ≤ c0) (h : slices_Clone_byte_byte.f l0 = some r) :
    Calls Try.prog 76 #[.slice A0 l0.length c0] w fun e w' => ∃ v0_ : Value, e = .returned v0_ ∧ Kd.R (Kd.int .u8) 5 w' w.heap.size (fun _ => True) v0_ r ∧ Below w.heap.size w w' := by
  obtain ⟨i0, hi, hz0, hz1, hz2⟩ := info_parts info5
  unfold slices_Clone_byte_byte.f at h
  split at h
  case isFalse => cases h
  rename_i hlim
  cases h
  cases A0 with
  | none =>
    have hx : l0 = [] := by
      rcases Nat.eq_zero_or_pos l0.length with h | h
      · exact List.eq_nil_of_length_eq_zero h
      · obtain ⟨ad, e, _⟩ := news_of_C hr0 h
        cases e
    subst hx
    have h0 := fun w => Lib.run_eql_slice_nil (P := Try.prog) w 75 5 none 0 c0 0 0 Try.underlying75
    go_enter Try.func76, Try.ntmps76
    go_wp2
    go_ret
    exact ⟨_, rfl, Kd.R_nil _ _ _ _ _, Below.refl _ _⟩
  | some ad =>
    have hnews : ∀ j u, (l0.map (Value.int .u8))[j]? = some u → (w.alloc (.cells #[] 5)).cell? (ad.add j) = some u := by
      intro j u hu
      rcases Nat.eq_zero_or_pos l0.length with h | h
      · have : l0 = [] := List.eq_nil_of_length_eq_zero h
        subst this; simp at hu
      · obtain ⟨ad', e, hc⟩ := news_of_C (Kd.C_alloc hr0 (.cells #[] 5)) h
        cases e
        exact hc j u hu
    have HN := hid hnews
    have h0 := fun w => Lib.run_eql_slice_nil (P := Try.prog) w 75 5 (some ad) l0.length c0 0 0 Try.underlying75
    clear hnews hr0
    go_enter Try.func76, Try.ntmps76
    go_wp2_with (at_builtin; refine wpList_append_own _ rfl _ _ 75 rfl w.heap.size 5 i0 (.int .u8 0) 1 1 Try.underlying75 hi hz0 hz1 hz2 rfl (by decide) _ 0 [] rfl (World.ownsRow_made _ #[] 0 (Nat.le_refl _) (by decide) rfl) ad l0.length c0 (l0.map (Value.int .u8)) rfl (by simp) HN.out (one_ints _ _) ?c3 ?c4 ?c5 ?_)
    case c3 => unfold maxLen; omega
    case c4 => omega
    case c5 => simp
    intro v' w1 hown' hgrow _
    go_wp2
    go_ret
    refine ⟨_, rfl, R_of (by simpa using hown'), (((Below.refl _ w).alloc (Nat.le_refl _) _).grown hgrow (by simp) ?_)⟩
    intro k hk
    simp [Value.ownBlock] at hk
    omega
/-! ### slices.Chunk of bytes -/
def intOf : Value → Int
  | .int _ x => x
  | _ => 0
theorem chunk_any (A : Option Addr) (n c : Nat) (s : Int) (hs : 1 ≤ s) (w : World) :
    Calls Try.prog 75 #[.slice A n c, .int .i64 s] w fun e w' => e = .returned (.func (.func 89) #[] #[.pointer (some ⟨w.heap.size, 0, none⟩), .pointer (some ⟨w.heap.size + 1, 0, none⟩)]) ∧ w' = (w.alloc (.cells #[.slice A n c] 75)).alloc (.cells #[.int .i64 s] 3) := by
  go_enter Try.func75, Try.ntmps75
  go_wp2
  go_ret
  exact ⟨rfl, rfl⟩
/-- How many parts of s a row of n has. -/
def parts (n s : Nat) : Nat := (n + s - 1) / s
theorem parts_lt {n s k : Nat} (hs : 0 < s) : k < parts n s ↔ k * s < n := by
  unfold parts
  rw [Nat.lt_div_iff_mul_lt hs]
  constructor <;> intro h
  · have : k * s = s * k := Nat.mul_comm _ _
    omega
  · have : k * s = s * k := Nat.mul_comm _ _
    omega
theorem parts_le (n s : Nat) (hs : 0 < s) : parts n s ≤ n := by
  rcases Nat.lt_or_ge n (parts n s) with h | h
  · have := (parts_lt hs).1 h
    have := Nat.le_mul_of_pos_right n hs
    omega
  · exact h
/-- The k-th part's word. -/
def part (ad : Addr) (n s k : Nat) : Value := .slice (some (ad.add (k * s))) (min s (n - k * s)) (min s (n - k * s))
theorem range_pre {k m : Nat} (h : k ≤ m) : List.range k <+: List.range m := by
  obtain ⟨d, rfl⟩ : ∃ d, m = k + d := ⟨m - k, by omega⟩
  rw [List.range_add]
  exact List.prefix_append _ _
set_option maxRecDepth 100000 in
set_option maxHeartbeats 2000000 in
theorem chunk1 (m : Nat) (hm : 1 ≤ m) (l bs bn cnt n₀ : Nat) (ad : Addr) (n c s : Nat) (hs : 0 < s) (hn63 : n ≤ 1000000) (hs63 : s ≤ 1000000) (hnc : n ≤ c) (hbs : bs < n₀) (hbs' : bs ≠ cnt) (hbn : bn < n₀) (hbn' : bn ≠ cnt) (J Jx : List Nat → World → Prop)
    (hY : ∀ pre x W, J pre W → pre.length < parts n s → YieldAt FW (m - 1) Try.prog l #[part ad n s x] W fun e W' =>
      (e = .returned (.bool true) ∧ J (pre ++ [x]) W' ∧ Keep cnt n₀ W W') ∨ (e = .returned (.bool false) ∧ Jx (pre ++ [x]) W'))
    (W : World) (hJ : AbidesFrom W.heap.size J) (hcs : W.cell? ⟨bs, 0, none⟩ = some (.slice (some ad) n c)) (hcn : W.cell? ⟨bn, 0, none⟩ = some (.int .i64 s)) (h0 : J [] W) :
    CallsIn FW m Try.prog 89 #[.func (.yield l) #[] #[], .pointer (some ⟨bs, 0, none⟩), .pointer (some ⟨bn, 0, none⟩)] W fun e W' => (∃ v, e = .returned v) ∧
      ((∃ ys, ys = List.range (parts n s) ∧ J ys W') ∨ (∃ pre, pre <+: List.range (parts n s) ∧ Jx pre W')) := by
  refine callsIn_of_wp Try.func89 rfl trivial ?_ rfl
  simp only [Try.ntmps89, List.size_toArray, List.length_cons, List.length_nil, Nat.reduceAdd, Nat.reduceSub, Array.replicate_succ, Array.replicate_zero, List.push_toArray, List.append_toArray, List.nil_append, List.cons_append]
  have HJ := hid hJ
  clear hJ
  gi_wp2
  gi_loopw [4] (fun i wr => ∃ k : Nat, k ≤ parts n s ∧ i = .int .i64 ((k * s : Nat) : Int) ∧ J (List.range k) wr ∧ Hid (Keep cnt n₀ W wr)) (fun i _ => n + s - (intOf i).toNat)
  case atStart => exact ⟨0, Nat.zero_le _, by simp, h0, hid (Keep.refl _ _ _)⟩
  case round =>
    obtain ⟨k, hk, rfl, hJs, hnx⟩ := hrel
    have hcs' : wr.cell? ⟨bs, 0, none⟩ = some (.slice (some ad) n c) := (hnx.out.cell (p := ⟨bs, 0, none⟩) hbs hbs').trans hcs
    have hcn' : wr.cell? ⟨bn, 0, none⟩ = some (.int .i64 s) := (hnx.out.cell (p := ⟨bn, 0, none⟩) hbn hbn').trans hcn
    have hnext : (k + 1) * s = k * s + s := Nat.succ_mul k s
    obtain ⟨q, hq⟩ : ∃ q, k * s = q := ⟨_, rfl⟩
    have hkl := parts_lt (n := n) (k := k) hs
    rw [hq] at hnext hkl ⊢
    by_cases hlt : q < n
    · have fin : ∀ z, J (List.range k) (wr.drewN z) := fun z => HJ.out _ _ _ none hJs (It.grown_drewN _ _ _) (fun r e => by cases e)
      have FIN := hid fin
      have HQ := hid hq
      have HK := hid hkl
      have HN := hid hnext
      clear hq hkl hnext fin
      have HH := hid hY
      clear hY hcs hcn
      by_cases hmin : n - q < s
      · have PV : Hid (part ad n s k = .slice (some (ad.add q)) (n - q) (n - q)) := hid (by
          unfold part
          rw [HQ.out, Nat.min_eq_right (by omega)])
        gi_wp2
        gi_quiet (fail)
        have hJ4 := FIN.out nq
        obtain ⟨W4, hW4⟩ : ∃ W4, W4 = wr.drewN nq := ⟨_, rfl⟩
        have c1 : W4.cell? ⟨bs, 0, none⟩ = some (.slice (some ad) n c) := by rw [hW4, World.cell?_drewN]; exact hcs'
        have c2 : W4.cell? ⟨bn, 0, none⟩ = some (.int .i64 s) := by rw [hW4, World.cell?_drewN]; exact hcn'
        have hkp : Hid (Keep cnt n₀ W W4) := hid (by rw [hW4]; exact hnx.out.trans (Keep.drewN _ _ _ _))
        rw [← hW4] at hJ4 ⊢
        clear hW4 hcs' hcn' hJs hnx FIN
        obtain ⟨fn, tmps, assign, body, hy, hR⟩ := HH.out _ k W4 hJ4 (by simpa using HK.out.2 hlt)
        rw [PV.out] at hy
        have HRR := hid hR
        clear hR
        gi_wp2
        refine HRR.out.mono ?_
        rintro e W5 (⟨rfl, hJ5, hk5⟩ | ⟨rfl, hJx5⟩)
        · have hb5 := hid (hkp.out.trans hk5)
          have c25 : W5.cell? ⟨bn, 0, none⟩ = some (.int .i64 s) := (hk5.cell (p := ⟨bn, 0, none⟩) hbn hbn').trans c2
          have hlt' := hid hlt
          clear hk5 c1 c2 hkp
          gi_wp2
          go_roundw
          case rel => exact ⟨k + 1, by have := HK.out.2 hlt'.out; omega, by rw [HN.out]; go_num, by rw [List.range_succ]; exact hJ5, hb5⟩
          case measure => simp [intOf]; omega
        · have hlt' := hid hlt
          gi_wp2
          refine bodyPost_ret (results_none rfl _ _ _) rfl ?_
          exact ⟨⟨_, rfl⟩, .inr ⟨_, by rw [← List.range_succ]; exact range_pre (by have := HK.out.2 hlt'.out; omega), hJx5⟩⟩
      · have PV : Hid (part ad n s k = .slice (some (ad.add q)) s s) := hid (by
          unfold part
          rw [HQ.out, Nat.min_eq_left (by omega)])
        gi_wp2
        gi_quiet (fail)
        have hJ4 := FIN.out nq
        obtain ⟨W4, hW4⟩ : ∃ W4, W4 = wr.drewN nq := ⟨_, rfl⟩
        have c1 : W4.cell? ⟨bs, 0, none⟩ = some (.slice (some ad) n c) := by rw [hW4, World.cell?_drewN]; exact hcs'
        have c2 : W4.cell? ⟨bn, 0, none⟩ = some (.int .i64 s) := by rw [hW4, World.cell?_drewN]; exact hcn'
        have hkp : Hid (Keep cnt n₀ W W4) := hid (by rw [hW4]; exact hnx.out.trans (Keep.drewN _ _ _ _))
        rw [← hW4] at hJ4 ⊢
        clear hW4 hcs' hcn' hJs hnx FIN
        obtain ⟨fn, tmps, assign, body, hy, hR⟩ := HH.out _ k W4 hJ4 (by simpa using HK.out.2 hlt)
        rw [PV.out] at hy
        have HRR := hid hR
        clear hR
        gi_wp2
        refine HRR.out.mono ?_
        rintro e W5 (⟨rfl, hJ5, hk5⟩ | ⟨rfl, hJx5⟩)
        · have hb5 := hid (hkp.out.trans hk5)
          have c25 : W5.cell? ⟨bn, 0, none⟩ = some (.int .i64 s) := (hk5.cell (p := ⟨bn, 0, none⟩) hbn hbn').trans c2
          have hlt' := hid hlt
          clear hk5 c1 c2 hkp
          gi_wp2
          go_roundw
          case rel => exact ⟨k + 1, by have := HK.out.2 hlt'.out; omega, by rw [HN.out]; go_num, by rw [List.range_succ]; exact hJ5, hb5⟩
          case measure => simp [intOf]; omega
        · have hlt' := hid hlt
          gi_wp2
          refine bodyPost_ret (results_none rfl _ _ _) rfl ?_
          exact ⟨⟨_, rfl⟩, .inr ⟨_, by rw [← List.range_succ]; exact range_pre (by have := HK.out.2 hlt'.out; omega), hJx5⟩⟩
    · have hke : k = parts n s := by
        rcases Nat.lt_or_ge k (parts n s) with h | h
        · exact absurd (hkl.1 h) hlt
        · omega
      have HKE := hid hke
      clear hke hkl hq hnext
      gi_wp2
      go_end0
      exact ⟨⟨_, rfl⟩, .inl ⟨_, by rw [HKE.out], hJs⟩⟩
theorem chunk_stops (m : Nat) (hm : 1 ≤ m) (bs bn cnt n₀ : Nat) (ad : Addr) (n c s : Nat) (hs : 0 < s) (hn63 : n ≤ 1000000) (hs63 : s ≤ 1000000) (hnc : n ≤ c) (w : World) (hbs : bs < n₀) (hbs' : bs ≠ cnt) (hbn : bn < n₀) (hbn' : bn ≠ cnt) (hn₀ : n₀ ≤ w.heap.size)
    (hcs : w.cell? ⟨bs, 0, none⟩ = some (.slice (some ad) n c)) (hcn : w.cell? ⟨bn, 0, none⟩ = some (.int .i64 s)) :
    SeqStopsK FW m Try.prog 89 #[.pointer (some ⟨bs, 0, none⟩), .pointer (some ⟨bn, 0, none⟩)] (fun x : Nat => #[part ad n s x]) (Keep cnt n₀) (fun ys => ys = List.range (parts n s)) (fun pre => pre <+: List.range (parts n s)) (parts n s) w := fun l J Jx W hW hJ _ hY h0 =>
  chunk1 m hm l bs bn cnt n₀ ad n c s hs hn63 hs63 hnc hbs hbs' hbn hbn' J Jx hY W hJ ((hW.cell (p := ⟨bs, 0, none⟩) (by show bs < w.heap.size; omega)).trans hcs) ((hW.cell (p := ⟨bn, 0, none⟩) (by show bn < w.heap.size; omega)).trans hcn) h0
/-! ### the small functions -/
def withinB (a b c : Int) : Bool := decide (b ≤ a) && decide (a ≤ c)
theorem within_calls (a b c : Int) (w : World) : Calls Try.prog 74 #[.int .i64 a, .int .i64 b, .int .i64 c] w fun e w' => e = .returned (.bool (withinB a b c)) ∧ w = w' := by
  by_cases h1 : b ≤ a
  · have hd : decide (b ≤ a) = true := decide_eq_true h1
    unfold withinB
    rw [hd]
    go_enter Try.func74, Try.ntmps74
    go_wp2
    go_ret
    exact ⟨ret_bool (by simp), rfl⟩
  · have hd : decide (b ≤ a) = false := decide_eq_false h1
    unfold withinB
    rw [hd]
    go_enter Try.func74, Try.ntmps74
    go_wp2
    go_ret
    exact ⟨ret_bool (by simp), rfl⟩
def goodB (st : Int) (n : Nat) : Bool := withinB st 0 7 && withinB (n : Int) 1 400
theorem good_calls (st : Int) (un : Bool) (A : Option Addr) (n c : Nat) (w : World) :
    Calls Try.prog 44 #[.agg #[.int .i64 st, .bool un, .slice A n c]] w fun e w' => e = .returned (.bool (goodB st n)) ∧ Below w.heap.size w w' := by
  rcases Bool.eq_false_or_eq_true (withinB st 0 7) with h1 | h1
  · unfold goodB
    rw [h1]
    go_enter Try.func44, Try.ntmps44
    go_wp2_with (go_at_call 74; refine (within_calls _ _ _ _).mono ?_; rintro e w' ⟨rfl, rfl⟩)
    go_ret
    exact ⟨ret_bool (by simp), (Below.refl _ w).alloc (Nat.le_refl _) _⟩
  · unfold goodB
    rw [h1]
    go_enter Try.func44, Try.ntmps44
    go_wp2_with (go_at_call 74; refine (within_calls _ _ _ _).mono ?_; rintro e w' ⟨rfl, rfl⟩)
    go_ret
    exact ⟨ret_bool (by simp), (Below.refl _ w).alloc (Nat.le_refl _) _⟩
theorem step_calls (a n : Int) (w : World) : Calls Try.prog 18 #[.int .u32 a, .int .i64 n] w fun e w' => e = .returned (.int .u32 ((a + n % 4294967296) % 4294967296)) ∧ w = w' := by
  go_enter Try.func18, Try.ntmps18
  go_wp2
  go_ret
  exact ⟨Base.ret_int (by first | rfl | (simp; omega)), rfl⟩
end Go.Proofs.Ytnlhlffciigcnaa.QFrag
