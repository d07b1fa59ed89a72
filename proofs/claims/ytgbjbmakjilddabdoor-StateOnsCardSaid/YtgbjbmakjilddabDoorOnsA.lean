/- StateOns by its walk, over this seat's translation: an event that may happen. -/
import Derived.Test.YtgbjbmakjilddabDoorCloses
import Derived.WalkSmall
namespace Go.Proofs.YtgbjbmakjilddabDoor.St
open Go.ChangeShapes Go.WideShapes Go.ChangeAt Go.RowKit
theorem info3 : (Tryd.prog.info? 3).map (fun i => (i.zero, i.size, i.bytes)) = some (some (.int .i64 0), 1, 8) := by kernel_rfl
theorem accepts2 (s : Int) (w : World) : Calls Tryd.prog 16 #[.int .i64 s] w fun e w' => e = .returned (.bool (s == 3)) ∧ w = w' := by
  have := accepts s w
  rw [show decide (s = 3) = (s == 3) by rw [Bool.eq_iff_iff]; simp] at this
  exact this
theorem sends2 (s : Int) (w : World) : Calls Tryd.prog 17 #[.int .i64 s] w fun e w' => e = .returned (.bool (s == 3 || s == 4 || s == 6)) ∧ w = w' := by
  have := sends s w
  rw [show decide (s = 3 ∨ s = 4 ∨ s = 6) = (s == 3 || s == 4 || s == 6) by rw [Bool.eq_iff_iff]; simp [or_assoc]] at this
  exact this
theorem takes2 (s : Int) (w : World) : Calls Tryd.prog 18 #[.int .i64 s] w fun e w' => e = .returned (.bool (decide (3 ≤ s) && decide (s ≤ 5))) ∧ w = w' := by
  have := takes s w
  rw [show decide (s = 3 ∨ s = 4 ∨ s = 5) = (decide (3 ≤ s) && decide (s ≤ 5)) by rw [Bool.eq_iff_iff]; simp; omega] at this
  exact this
/-- The ints that lie behind a, in a block from lo on and below hi. -/
def RowIn (lo hi : Nat) (w : World) (a : Option Addr) (xs : List Int) : Prop := xs = [] ∨ ∃ b o, a = some ⟨b, o, none⟩ ∧ lo ≤ b ∧ b < hi ∧ ∀ j, j < xs.length → w.cell? ⟨b, o + j, none⟩ = some (.int .i64 (xs[j]?.getD 0))
theorem RowIn.ints {lo hi : Nat} {w : World} {a : Option Addr} {xs : List Int} (h : RowIn lo hi w a xs) : Num.IntsAt w a xs := h.imp id fun ⟨b, o, h1, _, _, h2⟩ => ⟨b, o, h1, h2⟩
theorem RowIn.later {lo hi : Nat} {w w' : World} {a : Option Addr} {xs : List Int} (h : RowIn lo hi w a xs) (hb : Below hi w w') : RowIn lo hi w' a xs :=
  h.imp id fun ⟨b, o, h1, h2, h3, h4⟩ => ⟨b, o, h1, h2, h3, fun j hj => (hb.cell (p := ⟨b, o + j, none⟩) h3).trans (h4 j hj)⟩
theorem RowIn.grown {lo hi : Nat} {w w' : World} {a : Option Addr} {xs : List Int} {row : Option Nat} (h : RowIn lo hi w a xs) (hg : w.grownBy w' row) (hs : hi ≤ w.heap.size) (hr : ∀ b, row = some b → b < lo ∨ hi ≤ b) : RowIn lo hi w' a xs :=
  h.imp id fun ⟨b, o, h1, h2, h3, h4⟩ => ⟨b, o, h1, h2, h3, fun j hj => (World.cell?_of_block (w := w) (hg.block b (by omega) (fun e => by have := hr b e.symm; omega))).trans (h4 j hj)⟩
theorem RowIn.of {w : World} {base : Nat} {e : TypeId} {a : Option Addr} {n m c : Nat} {xs : List Int} (h : w.ownsRow base e 1 (.slice a n c) m (xs.map (Value.int .i64))) : RowIn base w.heap.size w a xs := by
  rcases intsAt_of_row h with hx | ⟨b, o, rfl, hc⟩
  · exact .inl hx
  · have := h.lt b rfl
    exact .inr ⟨b, o, rfl, this.1, this.2, hc⟩
theorem RowIn.mono {lo hi lo' hi' : Nat} {w : World} {a : Option Addr} {xs : List Int} (h : RowIn lo hi w a xs) (h1 : lo' ≤ lo) (h2 : hi ≤ hi') : RowIn lo' hi' w a xs :=
  h.imp id fun ⟨b, o, k1, k2, k3, k4⟩ => ⟨b, o, k1, by omega, by omega, k4⟩
theorem ownsRow_later {w w' : World} {base : Nat} {e : TypeId} {size : Nat} {v : Value} {n : Nat} {xs : List Value} (h : w.ownsRow base e size v n xs) (hb : Below w.heap.size w w') : w'.ownsRow base e size v n xs := by
  have hl := h.lt
  obtain ⟨h0, h1⟩ := h
  refine ⟨h0, h1.imp id ?_⟩
  rintro ⟨g, cap', cur, rfl, k1, k2, k3⟩
  exact ⟨g, cap', cur, rfl, k1, (hb.block g (hl g rfl).2).trans k2, k3⟩
theorem events_r {W : World} (s : Int) (w1 : World) (h : Hid (Below W.heap.size W w1)) : Calls Tryd.prog 13 #[.int .i64 s] w1 fun e w' => ∃ a c, e = .returned (.slice a (evs s 10).length c) ∧ Hid (RowIn w1.heap.size w'.heap.size w' a (evs s 10)) ∧ Hid (Below w1.heap.size w1 w') ∧ Hid (Below W.heap.size W w') := by
  refine (events s w1).mono ?_
  rintro e w' ⟨v, rfl, hown, hb⟩
  obtain ⟨a, c, rfl⟩ := slice_of_row hown
  exact ⟨a, c, rfl, hid (RowIn.of hown), hid hb, hid (h.out.trans (hb.mono h.out.size))⟩
set_option maxHeartbeats 6400000 in
set_option maxRecDepth 100000 in
theorem ons_ok (s e : Int) (hz : onE s e = 0) (w : World) (ht0 : TabNow w) :
    Calls Tryd.prog 6 #[.int .i64 s, .int .i64 e] w fun x w' => x = .returned (.bool true) ∧ Below w.heap.size w w' := by
  obtain ⟨i0, hi, hz0, hz1, hz2⟩ := info_parts info3
  have ht := hid ht0
  have HZ := hid hz
  clear hz
  clear ht0
  have hs : s = 3 ∨ s = 4 ∨ (¬ s = 3 ∧ ¬ s = 4 ∧ 3 ≤ s) ∨ (¬ s = 3 ∧ ¬ s = 4 ∧ s < 3) := by omega
  rcases hs with rfl | rfl | ⟨h3, h4, h⟩ | ⟨h3, h4, h⟩
  · go_enter Tryd.func6, Tryd.ntmps6
    go_wp2_with (first
      | (go_at_call 8; refine (alive_b ht).mono ?_; rintro x w1 ⟨rfl, hb1⟩)
      | (go_at_call 12; refine (on_ok _ _ _ HZ.out).mono ?_; rintro x w' ⟨rfl, rfl⟩)
      | (go_at_call 9; refine (ref_ok HZ.out _).mono ?_; rintro x w' ⟨rfl, rfl⟩)
      | (go_at_call 14; refine (num_nil _).mono ?_; rintro x w' ⟨rfl, rfl⟩)
      | (go_at_call 11; refine (string_b ht _ _ (by assumption)).mono ?_; rintro e w1 ⟨rfl, hb1⟩)
      | (go_at_call 15; refine (name_b _ _ (by assumption)).mono ?_; rintro e w1 ⟨rfl, hb1⟩)
      | (go_at_call 16; refine (accepts2 _ _).mono ?_; rintro e w' ⟨rfl, rfl⟩)
      | (go_at_call 17; refine (sends2 _ _).mono ?_; rintro e w' ⟨rfl, rfl⟩)
      | (go_at_call 18; refine (takes2 _ _).mono ?_; rintro e w' ⟨rfl, rfl⟩))
    have hsz := hb1.out.size
    go_loopw [10, 82] (fun v i wr => ∃ k : Nat, k ≤ 10 ∧ i = .int .i64 k ∧ wr.ownsRow w.heap.size 3 1 v (evs 3 k).length ((evs 3 k).map (Value.int .i64)) ∧ Hid (Below w.heap.size w wr)) (fun _ i _ => 10 - (intOf i).toNat)
    case atStart => exact ⟨0, Nat.zero_le _, rfl, World.ownsRow_made _ #[] 0 hsz (by decide) rfl, hid (hb1.out.alloc hsz _)⟩
    case round =>
      obtain ⟨k, hk, rfl, hown, hb⟩ := hrel
      have hsz := hb.out.size
      have hle := evs_len 3 k
      by_cases hlt : k < 10
      · by_cases hq : onE 3 k = 0
        · have HQ := hid hq
          have HE := hid (evs_ok 3 k hq)
          clear hq
          go_wp2_with (first
            | (go_at_call 9; refine (ref_ok HQ.out _).mono ?_; rintro e w' ⟨rfl, rfl⟩)
            | (at_builtin; refine wpList_append_own _ rfl _ _ 22 rfl w.heap.size 3 i0 (.int .i64 0) 1 8 Tryd.underlying22 hi hz0 hz1 hz2 rfl (by decide) _ _ _ rfl (hown.alloc _) ⟨wr.heap.size, 0, none⟩ 1 1 [.int .i64 k] rfl rfl ?c1 ?c2 ?c3 ?c4 ?c5 ?_))
          case c1 => exact cell_one_new _ _ _
          case c2 => simp [Value.oneCell']
          case c3 => unfold maxLen; omega
          case c4 => omega
          case c5 => simp; omega
          intro v' w2 hown' hgrow _
          go_wp2
          go_roundw
          case rel => exact ⟨k + 1, by omega, by go_num, by rw [HE.out]; simpa using hown', hid ((hb.out.alloc hsz _).grown hgrow (by simp; omega) (fun j e => (hown.lt j e).1))⟩
          case measure => simp [intOf]; omega
        · have HE := hid (evs_bad 3 k hq)
          obtain ⟨d, hd0⟩ : ∃ d, onE 3 k = d := ⟨_, rfl⟩
          have hdz : (d == 0) = false := by rw [← hd0]; simpa using hq
          have HD := hid hd0
          clear hq hd0
          go_wp2_with (go_at_call 9; refine (ref_bad HD.out (by simpa using hdz) _).mono ?_; rintro x w' ⟨rfl, rfl⟩)
          go_roundw
          case rel => exact ⟨k + 1, by omega, by go_num, by rw [HE.out]; exact hown, hb⟩
          case measure => simp [intOf]; omega
      · obtain rfl : k = 10 := by omega
        obtain ⟨a2, c2, rfl⟩ := slice_of_row hown
        have hmay := hid (RowIn.of hown)
        clear hown hb1
        go_wp2_with (go_at_call 13; refine (events_r _ _ (hid (hb.out.alloc hsz _))).mono ?_; rintro x w5 ⟨a5, c5, rfl, hev, hb5, hB5⟩)
        have hgot := ownsRow_later (World.ownsRow_made (base := wr.heap.size) (e := 3) (size := 1) wr #[] 0 (Nat.le_refl _) (by decide) rfl) hb5.out
        have hmay5 := hid (hmay.out.later (((Below.refl _ wr).alloc (Nat.le_refl _) _).trans (hb5.out.mono (by simp))))
        have hsz5 : wr.heap.size + 1 ≤ w5.heap.size := by have := hb5.out.size; simpa using this
        have hev5 : Hid (RowIn (wr.heap.size + 1) w5.heap.size w5 a5 (evs 3 10)) := hid (hev.out.mono (by simp) (Nat.le_refl _))
        clear hmay hb5 hev
        obtain ⟨wo, rfl⟩ : ∃ wo : World, wo = wr := ⟨_, rfl⟩
        go_loopw [14, 102] (fun v i wr => ∃ k : Nat, k ≤ (evs 3 10).length ∧ i = .int .i64 k ∧ wr.ownsRow wo.heap.size 3 1 v k (((evs 3 10).take k).map (Value.int .i64)) ∧ Hid (∀ b, v.ownBlock = some b → b = wo.heap.size ∨ w5.heap.size ≤ b) ∧ Hid (RowIn w.heap.size wo.heap.size wr a2 (evs 3 10)) ∧ Hid (RowIn (wo.heap.size + 1) w5.heap.size wr a5 (evs 3 10)) ∧ Hid (Below w.heap.size w wr) ∧ w5.heap.size ≤ wr.heap.size) (fun _ i _ => (evs 3 10).length - (intOf i).toNat)
        case atStart => exact ⟨0, Nat.zero_le _, rfl, hgot, hid (fun b hb => by simp [Value.ownBlock] at hb; omega), hmay5, hev5, hB5, Nat.le_refl _⟩
        case round =>
          obtain ⟨k, hk, rfl, hown, hob, hm, hv, hB, hwr⟩ := hrel
          by_cases hlt : k < (evs 3 10).length
          · rcases hv.out with h | ⟨b, o, rfl, _, _, hc⟩
            · exfalso; rw [h] at hlt; simp at hlt
            have hcell := hc k hlt
            clear hc
            have htk := hid (Num.take_snoc (evs 3 10) k hlt)
            generalize (evs 3 10)[k]?.getD 0 = y at hcell htk
            go_wp2_with (at_builtin; refine wpList_append_own_at _ rfl _ _ 22 rfl wo.heap.size 3 i0 (.int .i64 0) 1 8 Tryd.underlying22 hi hz0 hz1 hz2 rfl (by decide) _ _ _ rfl (hown.alloc _) ⟨wr.heap.size, 0, none⟩ 1 1 [.int .i64 y] rfl rfl ?c1 ?c2 ?c3 ?c4 ?c5 ?_)
            case c1 => exact cell_one_new _ _ _
            case c2 => simp [Value.oneCell']
            case c3 => unfold maxLen; omega
            case c4 => omega
            case c5 => simp; omega
            intro v' w9 hown' hgrow _ hwhere
            have hob' := hob.out
            have hg9 := hgrow.size
            simp only [World.size_alloc] at hg9
            have hsz0 : w.heap.size ≤ wo.heap.size := hsz
            go_wp2
            go_roundw
            case rel =>
              refine ⟨k + 1, by omega, by go_num, by rw [htk.out]; simpa using hown', hid ?_, hid ((hm.out.later ((Below.refl _ _).alloc (by omega) _)).grown hgrow (by simp; omega) ?_), hid ((hv.out.later ((Below.refl _ _).alloc (by omega) _)).grown hgrow (by simp; omega) ?_), hid ((hB.out.alloc (by omega) _).grown hgrow (by simp; omega) ?_), by omega⟩
              · intro b hb'
                rcases hwhere with h | h
                · exact hob' b (by rw [← h]; exact hb')
                · rw [h] at hb'; simp at hb'; omega
              · intro b hb'; have := hob' b hb'; omega
              · intro b hb'; have := hob' b hb'; omega
              · intro b hb'; have := hob' b hb'; omega
            case measure => simp [intOf]; omega
          · have hkk : k = (evs 3 10).length := by omega
            subst hkk
            rw [List.take_length] at hown
            obtain ⟨a7, c7, rfl⟩ := slice_of_row hown
            have hg7 := hid (intsAt_of_row hown)
            have hm7 := hid hm.out.ints
            clear hown
            have hfin : ∀ w : World, Num.IntsAt w a7 (evs 3 10) → Num.IntsAt w a2 (evs 3 10) → Calls Tryd.prog 19 #[.slice a7 (evs 3 10).length c7, .slice a2 (evs 3 10).length c2] w fun e w' => e = .returned (.bool true) ∧ ∃ q, w' = w.drewN q := fun w h1 h2 => by
              have := Num.ints_yes w a7 a2 (evs 3 10).length c7 c2 (evs 3 10) (evs 3 10) rfl rfl (by have := evs_len 3 10; omega) h1 h2
              simpa using this
            have HF := hid hfin
            clear hfin
            go_wp2_with (go_at_call 19; refine (HF.out _ hg7.out hm7.out).mono ?_; rintro x w8 ⟨rfl, q, rfl⟩)
            go_ret
            exact ⟨rfl, below_drewN hB.out _⟩
  · go_enter Tryd.func6, Tryd.ntmps6
    go_wp2_with (first
      | (go_at_call 8; refine (alive_b ht).mono ?_; rintro x w1 ⟨rfl, hb1⟩)
      | (go_at_call 12; refine (on_ok _ _ _ HZ.out).mono ?_; rintro x w' ⟨rfl, rfl⟩)
      | (go_at_call 9; refine (ref_ok HZ.out _).mono ?_; rintro x w' ⟨rfl, rfl⟩)
      | (go_at_call 14; refine (num_nil _).mono ?_; rintro x w' ⟨rfl, rfl⟩)
      | (go_at_call 11; refine (string_b ht _ _ (by assumption)).mono ?_; rintro e w1 ⟨rfl, hb1⟩)
      | (go_at_call 15; refine (name_b _ _ (by assumption)).mono ?_; rintro e w1 ⟨rfl, hb1⟩)
      | (go_at_call 16; refine (accepts2 _ _).mono ?_; rintro e w' ⟨rfl, rfl⟩)
      | (go_at_call 17; refine (sends2 _ _).mono ?_; rintro e w' ⟨rfl, rfl⟩)
      | (go_at_call 18; refine (takes2 _ _).mono ?_; rintro e w' ⟨rfl, rfl⟩))
    have hsz := hb1.out.size
    go_loopw [10, 82] (fun v i wr => ∃ k : Nat, k ≤ 10 ∧ i = .int .i64 k ∧ wr.ownsRow w.heap.size 3 1 v (evs 4 k).length ((evs 4 k).map (Value.int .i64)) ∧ Hid (Below w.heap.size w wr)) (fun _ i _ => 10 - (intOf i).toNat)
    case atStart => exact ⟨0, Nat.zero_le _, rfl, World.ownsRow_made _ #[] 0 hsz (by decide) rfl, hid (hb1.out.alloc hsz _)⟩
    case round =>
      obtain ⟨k, hk, rfl, hown, hb⟩ := hrel
      have hsz := hb.out.size
      have hle := evs_len 4 k
      by_cases hlt : k < 10
      · by_cases hq : onE 4 k = 0
        · have HQ := hid hq
          have HE := hid (evs_ok 4 k hq)
          clear hq
          go_wp2_with (first
            | (go_at_call 9; refine (ref_ok HQ.out _).mono ?_; rintro e w' ⟨rfl, rfl⟩)
            | (at_builtin; refine wpList_append_own _ rfl _ _ 22 rfl w.heap.size 3 i0 (.int .i64 0) 1 8 Tryd.underlying22 hi hz0 hz1 hz2 rfl (by decide) _ _ _ rfl (hown.alloc _) ⟨wr.heap.size, 0, none⟩ 1 1 [.int .i64 k] rfl rfl ?c1 ?c2 ?c3 ?c4 ?c5 ?_))
          case c1 => exact cell_one_new _ _ _
          case c2 => simp [Value.oneCell']
          case c3 => unfold maxLen; omega
          case c4 => omega
          case c5 => simp; omega
          intro v' w2 hown' hgrow _
          go_wp2
          go_roundw
          case rel => exact ⟨k + 1, by omega, by go_num, by rw [HE.out]; simpa using hown', hid ((hb.out.alloc hsz _).grown hgrow (by simp; omega) (fun j e => (hown.lt j e).1))⟩
          case measure => simp [intOf]; omega
        · have HE := hid (evs_bad 4 k hq)
          obtain ⟨d, hd0⟩ : ∃ d, onE 4 k = d := ⟨_, rfl⟩
          have hdz : (d == 0) = false := by rw [← hd0]; simpa using hq
          have HD := hid hd0
          clear hq hd0
          go_wp2_with (go_at_call 9; refine (ref_bad HD.out (by simpa using hdz) _).mono ?_; rintro x w' ⟨rfl, rfl⟩)
          go_roundw
          case rel => exact ⟨k + 1, by omega, by go_num, by rw [HE.out]; exact hown, hb⟩
          case measure => simp [intOf]; omega
      · obtain rfl : k = 10 := by omega
        obtain ⟨a2, c2, rfl⟩ := slice_of_row hown
        have hmay := hid (RowIn.of hown)
        clear hown hb1
        go_wp2_with (go_at_call 13; refine (events_r _ _ (hid (hb.out.alloc hsz _))).mono ?_; rintro x w5 ⟨a5, c5, rfl, hev, hb5, hB5⟩)
        have hgot := ownsRow_later (World.ownsRow_made (base := wr.heap.size) (e := 3) (size := 1) wr #[] 0 (Nat.le_refl _) (by decide) rfl) hb5.out
        have hmay5 := hid (hmay.out.later (((Below.refl _ wr).alloc (Nat.le_refl _) _).trans (hb5.out.mono (by simp))))
        have hsz5 : wr.heap.size + 1 ≤ w5.heap.size := by have := hb5.out.size; simpa using this
        have hev5 : Hid (RowIn (wr.heap.size + 1) w5.heap.size w5 a5 (evs 4 10)) := hid (hev.out.mono (by simp) (Nat.le_refl _))
        clear hmay hb5 hev
        obtain ⟨wo, rfl⟩ : ∃ wo : World, wo = wr := ⟨_, rfl⟩
        go_loopw [14, 102] (fun v i wr => ∃ k : Nat, k ≤ (evs 4 10).length ∧ i = .int .i64 k ∧ wr.ownsRow wo.heap.size 3 1 v k (((evs 4 10).take k).map (Value.int .i64)) ∧ Hid (∀ b, v.ownBlock = some b → b = wo.heap.size ∨ w5.heap.size ≤ b) ∧ Hid (RowIn w.heap.size wo.heap.size wr a2 (evs 4 10)) ∧ Hid (RowIn (wo.heap.size + 1) w5.heap.size wr a5 (evs 4 10)) ∧ Hid (Below w.heap.size w wr) ∧ w5.heap.size ≤ wr.heap.size) (fun _ i _ => (evs 4 10).length - (intOf i).toNat)
        case atStart => exact ⟨0, Nat.zero_le _, rfl, hgot, hid (fun b hb => by simp [Value.ownBlock] at hb; omega), hmay5, hev5, hB5, Nat.le_refl _⟩
        case round =>
          obtain ⟨k, hk, rfl, hown, hob, hm, hv, hB, hwr⟩ := hrel
          by_cases hlt : k < (evs 4 10).length
          · rcases hv.out with h | ⟨b, o, rfl, _, _, hc⟩
            · exfalso; rw [h] at hlt; simp at hlt
            have hcell := hc k hlt
            clear hc
            have htk := hid (Num.take_snoc (evs 4 10) k hlt)
            generalize (evs 4 10)[k]?.getD 0 = y at hcell htk
            go_wp2_with (at_builtin; refine wpList_append_own_at _ rfl _ _ 22 rfl wo.heap.size 3 i0 (.int .i64 0) 1 8 Tryd.underlying22 hi hz0 hz1 hz2 rfl (by decide) _ _ _ rfl (hown.alloc _) ⟨wr.heap.size, 0, none⟩ 1 1 [.int .i64 y] rfl rfl ?c1 ?c2 ?c3 ?c4 ?c5 ?_)
            case c1 => exact cell_one_new _ _ _
            case c2 => simp [Value.oneCell']
            case c3 => unfold maxLen; omega
            case c4 => omega
            case c5 => simp; omega
            intro v' w9 hown' hgrow _ hwhere
            have hob' := hob.out
            have hg9 := hgrow.size
            simp only [World.size_alloc] at hg9
            have hsz0 : w.heap.size ≤ wo.heap.size := hsz
            go_wp2
            go_roundw
            case rel =>
              refine ⟨k + 1, by omega, by go_num, by rw [htk.out]; simpa using hown', hid ?_, hid ((hm.out.later ((Below.refl _ _).alloc (by omega) _)).grown hgrow (by simp; omega) ?_), hid ((hv.out.later ((Below.refl _ _).alloc (by omega) _)).grown hgrow (by simp; omega) ?_), hid ((hB.out.alloc (by omega) _).grown hgrow (by simp; omega) ?_), by omega⟩
              · intro b hb'
                rcases hwhere with h | h
                · exact hob' b (by rw [← h]; exact hb')
                · rw [h] at hb'; simp at hb'; omega
              · intro b hb'; have := hob' b hb'; omega
              · intro b hb'; have := hob' b hb'; omega
              · intro b hb'; have := hob' b hb'; omega
            case measure => simp [intOf]; omega
          · have hkk : k = (evs 4 10).length := by omega
            subst hkk
            rw [List.take_length] at hown
            obtain ⟨a7, c7, rfl⟩ := slice_of_row hown
            have hg7 := hid (intsAt_of_row hown)
            have hm7 := hid hm.out.ints
            clear hown
            have hfin : ∀ w : World, Num.IntsAt w a7 (evs 4 10) → Num.IntsAt w a2 (evs 4 10) → Calls Tryd.prog 19 #[.slice a7 (evs 4 10).length c7, .slice a2 (evs 4 10).length c2] w fun e w' => e = .returned (.bool true) ∧ ∃ q, w' = w.drewN q := fun w h1 h2 => by
              have := Num.ints_yes w a7 a2 (evs 4 10).length c7 c2 (evs 4 10) (evs 4 10) rfl rfl (by have := evs_len 4 10; omega) h1 h2
              simpa using this
            have HF := hid hfin
            clear hfin
            go_wp2_with (go_at_call 19; refine (HF.out _ hg7.out hm7.out).mono ?_; rintro x w8 ⟨rfl, q, rfl⟩)
            go_ret
            exact ⟨rfl, below_drewN hB.out _⟩
  · go_enter Tryd.func6, Tryd.ntmps6
    go_wp2_with (first
      | (go_at_call 8; refine (alive_b ht).mono ?_; rintro x w1 ⟨rfl, hb1⟩)
      | (go_at_call 12; refine (on_ok _ _ _ HZ.out).mono ?_; rintro x w' ⟨rfl, rfl⟩)
      | (go_at_call 9; refine (ref_ok HZ.out _).mono ?_; rintro x w' ⟨rfl, rfl⟩)
      | (go_at_call 14; refine (num_nil _).mono ?_; rintro x w' ⟨rfl, rfl⟩)
      | (go_at_call 11; refine (string_b ht _ _ (by assumption)).mono ?_; rintro e w1 ⟨rfl, hb1⟩)
      | (go_at_call 15; refine (name_b _ _ (by assumption)).mono ?_; rintro e w1 ⟨rfl, hb1⟩)
      | (go_at_call 16; refine (accepts2 _ _).mono ?_; rintro e w' ⟨rfl, rfl⟩)
      | (go_at_call 17; refine (sends2 _ _).mono ?_; rintro e w' ⟨rfl, rfl⟩)
      | (go_at_call 18; refine (takes2 _ _).mono ?_; rintro e w' ⟨rfl, rfl⟩))
    have hsz := hb1.out.size
    go_loopw [10, 82] (fun v i wr => ∃ k : Nat, k ≤ 10 ∧ i = .int .i64 k ∧ wr.ownsRow w.heap.size 3 1 v (evs s k).length ((evs s k).map (Value.int .i64)) ∧ Hid (Below w.heap.size w wr)) (fun _ i _ => 10 - (intOf i).toNat)
    case atStart => exact ⟨0, Nat.zero_le _, rfl, World.ownsRow_made _ #[] 0 hsz (by decide) rfl, hid (hb1.out.alloc hsz _)⟩
    case round =>
      obtain ⟨k, hk, rfl, hown, hb⟩ := hrel
      have hsz := hb.out.size
      have hle := evs_len s k
      by_cases hlt : k < 10
      · by_cases hq : onE s k = 0
        · have HQ := hid hq
          have HE := hid (evs_ok s k hq)
          clear hq
          go_wp2_with (first
            | (go_at_call 9; refine (ref_ok HQ.out _).mono ?_; rintro e w' ⟨rfl, rfl⟩)
            | (at_builtin; refine wpList_append_own _ rfl _ _ 22 rfl w.heap.size 3 i0 (.int .i64 0) 1 8 Tryd.underlying22 hi hz0 hz1 hz2 rfl (by decide) _ _ _ rfl (hown.alloc _) ⟨wr.heap.size, 0, none⟩ 1 1 [.int .i64 k] rfl rfl ?c1 ?c2 ?c3 ?c4 ?c5 ?_))
          case c1 => exact cell_one_new _ _ _
          case c2 => simp [Value.oneCell']
          case c3 => unfold maxLen; omega
          case c4 => omega
          case c5 => simp; omega
          intro v' w2 hown' hgrow _
          go_wp2
          go_roundw
          case rel => exact ⟨k + 1, by omega, by go_num, by rw [HE.out]; simpa using hown', hid ((hb.out.alloc hsz _).grown hgrow (by simp; omega) (fun j e => (hown.lt j e).1))⟩
          case measure => simp [intOf]; omega
        · have HE := hid (evs_bad s k hq)
          obtain ⟨d, hd0⟩ : ∃ d, onE s k = d := ⟨_, rfl⟩
          have hdz : (d == 0) = false := by rw [← hd0]; simpa using hq
          have HD := hid hd0
          clear hq hd0
          go_wp2_with (go_at_call 9; refine (ref_bad HD.out (by simpa using hdz) _).mono ?_; rintro x w' ⟨rfl, rfl⟩)
          go_roundw
          case rel => exact ⟨k + 1, by omega, by go_num, by rw [HE.out]; exact hown, hb⟩
          case measure => simp [intOf]; omega
      · obtain rfl : k = 10 := by omega
        obtain ⟨a2, c2, rfl⟩ := slice_of_row hown
        have hmay := hid (RowIn.of hown)
        clear hown hb1
        go_wp2_with (go_at_call 13; refine (events_r _ _ (hid (hb.out.alloc hsz _))).mono ?_; rintro x w5 ⟨a5, c5, rfl, hev, hb5, hB5⟩)
        have hgot := ownsRow_later (World.ownsRow_made (base := wr.heap.size) (e := 3) (size := 1) wr #[] 0 (Nat.le_refl _) (by decide) rfl) hb5.out
        have hmay5 := hid (hmay.out.later (((Below.refl _ wr).alloc (Nat.le_refl _) _).trans (hb5.out.mono (by simp))))
        have hsz5 : wr.heap.size + 1 ≤ w5.heap.size := by have := hb5.out.size; simpa using this
        have hev5 : Hid (RowIn (wr.heap.size + 1) w5.heap.size w5 a5 (evs s 10)) := hid (hev.out.mono (by simp) (Nat.le_refl _))
        clear hmay hb5 hev
        obtain ⟨wo, rfl⟩ : ∃ wo : World, wo = wr := ⟨_, rfl⟩
        go_loopw [14, 102] (fun v i wr => ∃ k : Nat, k ≤ (evs s 10).length ∧ i = .int .i64 k ∧ wr.ownsRow wo.heap.size 3 1 v k (((evs s 10).take k).map (Value.int .i64)) ∧ Hid (∀ b, v.ownBlock = some b → b = wo.heap.size ∨ w5.heap.size ≤ b) ∧ Hid (RowIn w.heap.size wo.heap.size wr a2 (evs s 10)) ∧ Hid (RowIn (wo.heap.size + 1) w5.heap.size wr a5 (evs s 10)) ∧ Hid (Below w.heap.size w wr) ∧ w5.heap.size ≤ wr.heap.size) (fun _ i _ => (evs s 10).length - (intOf i).toNat)
        case atStart => exact ⟨0, Nat.zero_le _, rfl, hgot, hid (fun b hb => by simp [Value.ownBlock] at hb; omega), hmay5, hev5, hB5, Nat.le_refl _⟩
        case round =>
          obtain ⟨k, hk, rfl, hown, hob, hm, hv, hB, hwr⟩ := hrel
          by_cases hlt : k < (evs s 10).length
          · rcases hv.out with h | ⟨b, o, rfl, _, _, hc⟩
            · exfalso; rw [h] at hlt; simp at hlt
            have hcell := hc k hlt
            clear hc
            have htk := hid (Num.take_snoc (evs s 10) k hlt)
            generalize (evs s 10)[k]?.getD 0 = y at hcell htk
            go_wp2_with (at_builtin; refine wpList_append_own_at _ rfl _ _ 22 rfl wo.heap.size 3 i0 (.int .i64 0) 1 8 Tryd.underlying22 hi hz0 hz1 hz2 rfl (by decide) _ _ _ rfl (hown.alloc _) ⟨wr.heap.size, 0, none⟩ 1 1 [.int .i64 y] rfl rfl ?c1 ?c2 ?c3 ?c4 ?c5 ?_)
            case c1 => exact cell_one_new _ _ _
            case c2 => simp [Value.oneCell']
            case c3 => unfold maxLen; omega
            case c4 => omega
            case c5 => simp; omega
            intro v' w9 hown' hgrow _ hwhere
            have hob' := hob.out
            have hg9 := hgrow.size
            simp only [World.size_alloc] at hg9
            have hsz0 : w.heap.size ≤ wo.heap.size := hsz
            go_wp2
            go_roundw
            case rel =>
              refine ⟨k + 1, by omega, by go_num, by rw [htk.out]; simpa using hown', hid ?_, hid ((hm.out.later ((Below.refl _ _).alloc (by omega) _)).grown hgrow (by simp; omega) ?_), hid ((hv.out.later ((Below.refl _ _).alloc (by omega) _)).grown hgrow (by simp; omega) ?_), hid ((hB.out.alloc (by omega) _).grown hgrow (by simp; omega) ?_), by omega⟩
              · intro b hb'
                rcases hwhere with h | h
                · exact hob' b (by rw [← h]; exact hb')
                · rw [h] at hb'; simp at hb'; omega
              · intro b hb'; have := hob' b hb'; omega
              · intro b hb'; have := hob' b hb'; omega
              · intro b hb'; have := hob' b hb'; omega
            case measure => simp [intOf]; omega
          · have hkk : k = (evs s 10).length := by omega
            subst hkk
            rw [List.take_length] at hown
            obtain ⟨a7, c7, rfl⟩ := slice_of_row hown
            have hg7 := hid (intsAt_of_row hown)
            have hm7 := hid hm.out.ints
            clear hown
            have hfin : ∀ w : World, Num.IntsAt w a7 (evs s 10) → Num.IntsAt w a2 (evs s 10) → Calls Tryd.prog 19 #[.slice a7 (evs s 10).length c7, .slice a2 (evs s 10).length c2] w fun e w' => e = .returned (.bool true) ∧ ∃ q, w' = w.drewN q := fun w h1 h2 => by
              have := Num.ints_yes w a7 a2 (evs s 10).length c7 c2 (evs s 10) (evs s 10) rfl rfl (by have := evs_len s 10; omega) h1 h2
              simpa using this
            have HF := hid hfin
            clear hfin
            go_wp2_with (go_at_call 19; refine (HF.out _ hg7.out hm7.out).mono ?_; rintro x w8 ⟨rfl, q, rfl⟩)
            go_ret
            exact ⟨rfl, below_drewN hB.out _⟩
  · go_enter Tryd.func6, Tryd.ntmps6
    go_wp2_with (first
      | (go_at_call 8; refine (alive_b ht).mono ?_; rintro x w1 ⟨rfl, hb1⟩)
      | (go_at_call 12; refine (on_ok _ _ _ HZ.out).mono ?_; rintro x w' ⟨rfl, rfl⟩)
      | (go_at_call 9; refine (ref_ok HZ.out _).mono ?_; rintro x w' ⟨rfl, rfl⟩)
      | (go_at_call 14; refine (num_nil _).mono ?_; rintro x w' ⟨rfl, rfl⟩)
      | (go_at_call 11; refine (string_b ht _ _ (by assumption)).mono ?_; rintro e w1 ⟨rfl, hb1⟩)
      | (go_at_call 15; refine (name_b _ _ (by assumption)).mono ?_; rintro e w1 ⟨rfl, hb1⟩)
      | (go_at_call 16; refine (accepts2 _ _).mono ?_; rintro e w' ⟨rfl, rfl⟩)
      | (go_at_call 17; refine (sends2 _ _).mono ?_; rintro e w' ⟨rfl, rfl⟩)
      | (go_at_call 18; refine (takes2 _ _).mono ?_; rintro e w' ⟨rfl, rfl⟩))
    have hsz := hb1.out.size
    go_loopw [10, 82] (fun v i wr => ∃ k : Nat, k ≤ 10 ∧ i = .int .i64 k ∧ wr.ownsRow w.heap.size 3 1 v (evs s k).length ((evs s k).map (Value.int .i64)) ∧ Hid (Below w.heap.size w wr)) (fun _ i _ => 10 - (intOf i).toNat)
    case atStart => exact ⟨0, Nat.zero_le _, rfl, World.ownsRow_made _ #[] 0 hsz (by decide) rfl, hid (hb1.out.alloc hsz _)⟩
    case round =>
      obtain ⟨k, hk, rfl, hown, hb⟩ := hrel
      have hsz := hb.out.size
      have hle := evs_len s k
      by_cases hlt : k < 10
      · by_cases hq : onE s k = 0
        · have HQ := hid hq
          have HE := hid (evs_ok s k hq)
          clear hq
          go_wp2_with (first
            | (go_at_call 9; refine (ref_ok HQ.out _).mono ?_; rintro e w' ⟨rfl, rfl⟩)
            | (at_builtin; refine wpList_append_own _ rfl _ _ 22 rfl w.heap.size 3 i0 (.int .i64 0) 1 8 Tryd.underlying22 hi hz0 hz1 hz2 rfl (by decide) _ _ _ rfl (hown.alloc _) ⟨wr.heap.size, 0, none⟩ 1 1 [.int .i64 k] rfl rfl ?c1 ?c2 ?c3 ?c4 ?c5 ?_))
          case c1 => exact cell_one_new _ _ _
          case c2 => simp [Value.oneCell']
          case c3 => unfold maxLen; omega
          case c4 => omega
          case c5 => simp; omega
          intro v' w2 hown' hgrow _
          go_wp2
          go_roundw
          case rel => exact ⟨k + 1, by omega, by go_num, by rw [HE.out]; simpa using hown', hid ((hb.out.alloc hsz _).grown hgrow (by simp; omega) (fun j e => (hown.lt j e).1))⟩
          case measure => simp [intOf]; omega
        · have HE := hid (evs_bad s k hq)
          obtain ⟨d, hd0⟩ : ∃ d, onE s k = d := ⟨_, rfl⟩
          have hdz : (d == 0) = false := by rw [← hd0]; simpa using hq
          have HD := hid hd0
          clear hq hd0
          go_wp2_with (go_at_call 9; refine (ref_bad HD.out (by simpa using hdz) _).mono ?_; rintro x w' ⟨rfl, rfl⟩)
          go_roundw
          case rel => exact ⟨k + 1, by omega, by go_num, by rw [HE.out]; exact hown, hb⟩
          case measure => simp [intOf]; omega
      · obtain rfl : k = 10 := by omega
        obtain ⟨a2, c2, rfl⟩ := slice_of_row hown
        have hmay := hid (RowIn.of hown)
        clear hown hb1
        go_wp2_with (go_at_call 13; refine (events_r _ _ (hid (hb.out.alloc hsz _))).mono ?_; rintro x w5 ⟨a5, c5, rfl, hev, hb5, hB5⟩)
        have hgot := ownsRow_later (World.ownsRow_made (base := wr.heap.size) (e := 3) (size := 1) wr #[] 0 (Nat.le_refl _) (by decide) rfl) hb5.out
        have hmay5 := hid (hmay.out.later (((Below.refl _ wr).alloc (Nat.le_refl _) _).trans (hb5.out.mono (by simp))))
        have hsz5 : wr.heap.size + 1 ≤ w5.heap.size := by have := hb5.out.size; simpa using this
        have hev5 : Hid (RowIn (wr.heap.size + 1) w5.heap.size w5 a5 (evs s 10)) := hid (hev.out.mono (by simp) (Nat.le_refl _))
        clear hmay hb5 hev
        obtain ⟨wo, rfl⟩ : ∃ wo : World, wo = wr := ⟨_, rfl⟩
        go_loopw [14, 102] (fun v i wr => ∃ k : Nat, k ≤ (evs s 10).length ∧ i = .int .i64 k ∧ wr.ownsRow wo.heap.size 3 1 v k (((evs s 10).take k).map (Value.int .i64)) ∧ Hid (∀ b, v.ownBlock = some b → b = wo.heap.size ∨ w5.heap.size ≤ b) ∧ Hid (RowIn w.heap.size wo.heap.size wr a2 (evs s 10)) ∧ Hid (RowIn (wo.heap.size + 1) w5.heap.size wr a5 (evs s 10)) ∧ Hid (Below w.heap.size w wr) ∧ w5.heap.size ≤ wr.heap.size) (fun _ i _ => (evs s 10).length - (intOf i).toNat)
        case atStart => exact ⟨0, Nat.zero_le _, rfl, hgot, hid (fun b hb => by simp [Value.ownBlock] at hb; omega), hmay5, hev5, hB5, Nat.le_refl _⟩
        case round =>
          obtain ⟨k, hk, rfl, hown, hob, hm, hv, hB, hwr⟩ := hrel
          by_cases hlt : k < (evs s 10).length
          · rcases hv.out with h | ⟨b, o, rfl, _, _, hc⟩
            · exfalso; rw [h] at hlt; simp at hlt
            have hcell := hc k hlt
            clear hc
            have htk := hid (Num.take_snoc (evs s 10) k hlt)
            generalize (evs s 10)[k]?.getD 0 = y at hcell htk
            go_wp2_with (at_builtin; refine wpList_append_own_at _ rfl _ _ 22 rfl wo.heap.size 3 i0 (.int .i64 0) 1 8 Tryd.underlying22 hi hz0 hz1 hz2 rfl (by decide) _ _ _ rfl (hown.alloc _) ⟨wr.heap.size, 0, none⟩ 1 1 [.int .i64 y] rfl rfl ?c1 ?c2 ?c3 ?c4 ?c5 ?_)
            case c1 => exact cell_one_new _ _ _
            case c2 => simp [Value.oneCell']
            case c3 => unfold maxLen; omega
            case c4 => omega
            case c5 => simp; omega
            intro v' w9 hown' hgrow _ hwhere
            have hob' := hob.out
            have hg9 := hgrow.size
            simp only [World.size_alloc] at hg9
            have hsz0 : w.heap.size ≤ wo.heap.size := hsz
            go_wp2
            go_roundw
            case rel =>
              refine ⟨k + 1, by omega, by go_num, by rw [htk.out]; simpa using hown', hid ?_, hid ((hm.out.later ((Below.refl _ _).alloc (by omega) _)).grown hgrow (by simp; omega) ?_), hid ((hv.out.later ((Below.refl _ _).alloc (by omega) _)).grown hgrow (by simp; omega) ?_), hid ((hB.out.alloc (by omega) _).grown hgrow (by simp; omega) ?_), by omega⟩
              · intro b hb'
                rcases hwhere with h | h
                · exact hob' b (by rw [← h]; exact hb')
                · rw [h] at hb'; simp at hb'; omega
              · intro b hb'; have := hob' b hb'; omega
              · intro b hb'; have := hob' b hb'; omega
              · intro b hb'; have := hob' b hb'; omega
            case measure => simp [intOf]; omega
          · have hkk : k = (evs s 10).length := by omega
            subst hkk
            rw [List.take_length] at hown
            obtain ⟨a7, c7, rfl⟩ := slice_of_row hown
            have hg7 := hid (intsAt_of_row hown)
            have hm7 := hid hm.out.ints
            clear hown
            have hfin : ∀ w : World, Num.IntsAt w a7 (evs s 10) → Num.IntsAt w a2 (evs s 10) → Calls Tryd.prog 19 #[.slice a7 (evs s 10).length c7, .slice a2 (evs s 10).length c2] w fun e w' => e = .returned (.bool true) ∧ ∃ q, w' = w.drewN q := fun w h1 h2 => by
              have := Num.ints_yes w a7 a2 (evs s 10).length c7 c2 (evs s 10) (evs s 10) rfl rfl (by have := evs_len s 10; omega) h1 h2
              simpa using this
            have HF := hid hfin
            clear hfin
            go_wp2_with (go_at_call 19; refine (HF.out _ hg7.out hm7.out).mono ?_; rintro x w8 ⟨rfl, q, rfl⟩)
            go_ret
            exact ⟨rfl, below_drewN hB.out _⟩
end Go.Proofs.YtgbjbmakjilddabDoor.St
