/- StateRuns by its walk, over this seat's translation: the parts. -/
import Derived.Test.YtgbjbmakjilddabDoorCloses
namespace Go.Proofs.YtgbjbmakjilddabDoor.St
open Go.ChangeShapes Go.WideShapes Go.ChangeAt Go.RowKit
theorem runs_long (s : Int) (a : Option Addr) (len cap : Nat) (h : 100 < len) (hm : len ≤ maxLen) (w : World) (ht0 : TabNow w) :
    Calls Tryd.prog 3 #[.int .i64 s, .slice a len cap] w fun x w' => x = .returned (.bool true) ∧ Below w.heap.size w w' := by
  have ht := hid ht0
  clear ht0
  unfold maxLen at hm
  go_enter Tryd.func3, Tryd.ntmps3
  go_wp2_with (first
    | (go_at_call 8; refine (alive_b ht).mono ?_; rintro x w1 ⟨rfl, hb1⟩))
  go_ret
  exact ⟨rfl, hb1.out⟩
theorem run_v {s : Int} {l : List Int} {c : Int} {m : Nat} (hs : Hid (runS s l = c)) (hn : Hid (runN s l = m)) (w : World) (a : Option Addr) (n cap : Nat) (hl : l.length = n) (h : n ≤ 100) (hr : Num.IntsAt w a l) :
    Calls Tryd.prog 10 #[.int .i64 s, .slice a n cap] w fun e w' => e = .returned (.tuple #[.int .i64 c, .int .i64 m]) ∧ w = w' := by
  rcases hr with rfl | ⟨b, o, rfl, hc⟩
  · have e : n = 0 := by simpa using hl.symm
    subst e
    have h1 : c = s := by simpa [runS] using hs.out.symm
    have h2 : m = 0 := by simpa [runN] using hn.out.symm
    rw [h1, h2]
    clear hs hn h1 h2
    go_enter Tryd.func10, Tryd.ntmps10
    go_wp2
    refine wp_loop_rounds 1 ?_
    rw [rounds_succ]
    go_wp2
    go_ret2
    exact ⟨rfl, rfl⟩
  · have := run_at s b o n cap l w hl (by omega) (fun j hj => hc j (by omega))
    rw [hs.out, hn.out] at this
    exact this
theorem runS_dropok {s c e : Int} {l : List Int} {k : Nat} (h : runS s l = runS c (l.drop k)) (hd : l.drop k = e :: l.drop (k + 1)) (hz : onE c e = 0) : runS s l = runS (onV c e) (l.drop (k + 1)) := by rw [h, hd, runS_ok hz]
theorem runN_dropok {s c e : Int} {l : List Int} {k : Nat} (h : runN s l = k + runN c (l.drop k)) (hd : l.drop k = e :: l.drop (k + 1)) (hz : onE c e = 0) : runN s l = k + 1 + runN (onV c e) (l.drop (k + 1)) := by rw [h, hd, runN_ok hz]; omega
set_option maxHeartbeats 1600000 in
theorem runs_in (s : Int) (a : Option Addr) (len cap : Nat) (h : len ≤ 100) (l : List Int) (hl : l.length = len) (w : World)
    (hrow : l = [] ∨ ∃ b o, a = some ⟨b, o, none⟩ ∧ b < w.heap.size ∧ ∀ j, j < l.length → w.cell? ⟨b, o + j, none⟩ = some (.int .i64 (l[j]?.getD 0))) (ht0 : TabNow w) :
    Calls Tryd.prog 3 #[.int .i64 s, .slice a len cap] w fun x w' => x = .returned (.bool true) ∧ Below w.heap.size w w' := by
  obtain ⟨i0, hi, hz0, hz1, hz2⟩ := info_parts info25
  have ht := hid ht0
  have HR := hid hrow
  have HL := hid hl
  clear ht0 hrow hl
  go_enter Tryd.func3, Tryd.ntmps3
  go_wp2_with (first
    | (go_at_call 8; refine (alive_b ht).mono ?_; rintro x w1 ⟨rfl, hb1⟩))
  have hsz := hb1.out.size
  go_loopw [5, 23] (fun v i wr => ∃ k : Nat, k ≤ len ∧ i = .int .i64 k ∧ wr.ownsRow w.heap.size 25 1 v k ((l.take k).map (Value.int .i64)) ∧ Hid (Below w.heap.size w wr)) (fun _ i _ => len - (intOf i).toNat)
  case atStart => exact ⟨0, Nat.zero_le _, rfl, World.ownsRow_made _ #[] 0 hsz (by decide) rfl, hid (hb1.out.alloc hsz _)⟩
  case round =>
    obtain ⟨k, hk, rfl, hown, hb⟩ := hrel
    have hsz := hb.out.size
    by_cases hlt : k < len
    · have hkl : k < l.length := by rw [HL.out]; exact hlt
      rcases HR.out with h | ⟨b, o, rfl, hbw, hcell0⟩
      · exfalso; rw [h] at hkl; simp at hkl
      have hcell : wr.cell? ⟨b, o + k, none⟩ = some (.int .i64 (l[k]?.getD 0)) := (hb.out.cell (p := ⟨b, o + k, none⟩) hbw).trans (hcell0 k hkl)
      have htk := hid (Num.take_snoc l k hkl)
      clear hcell0 hbw hkl
      generalize l[k]?.getD 0 = e at hcell htk
      go_wp2_with (at_builtin; refine wpList_append_own _ rfl _ _ 24 rfl w.heap.size 25 i0 (.int .i64 0) 1 8 Tryd.underlying24 hi hz0 hz1 hz2 rfl (by decide) _ _ _ rfl (hown.alloc _) ⟨wr.heap.size, 0, none⟩ 1 1 [.int .i64 e] rfl rfl ?c1 ?c2 ?c3 ?c4 ?c5 ?_)
      case c1 => exact cell_one_new _ _ _
      case c2 => simp [Value.oneCell']
      case c3 => unfold maxLen; omega
      case c4 => omega
      case c5 => simp; omega
      intro v' w2 hown' hgrow _
      go_wp2
      go_roundw
      case rel => exact ⟨k + 1, by omega, by go_num, by rw [htk.out]; simpa using hown', hid ((hb.out.alloc hsz _).grown hgrow (by simp; omega) (fun j e => (hown.lt j e).1))⟩
      case measure => simp [intOf]; omega
    · obtain rfl : k = len := by omega
      have hall : l.take k = l := List.take_of_length_le (by rw [HL.out]; exact Nat.le_refl _)
      rw [hall] at hown
      clear hall
      obtain ⟨a2, c2, rfl⟩ := slice_of_row hown
      have hev : Hid (Num.IntsAt wr a2 l) := hid (intsAt_of_row hown)
      clear hown hb1
      go_wp2
      go_loop [6, 7] (fun x i => ∃ (m : Nat) (c : Int), m ≤ k ∧ i = .int .i64 m ∧ x = .int .i64 c ∧ Hid (runS s l = runS c (l.drop m)) ∧ Hid (runN s l = m + runN c (l.drop m))) (fun _ i => k - (intOf i).toNat)
      case atStart => exact ⟨0, s, Nat.zero_le _, rfl, rfl, hid rfl, hid (by simp)⟩
      case round =>
        obtain ⟨m, c, hm, rfl, rfl, h1, h2⟩ := hrel
        by_cases hlt' : m < k
        · have hkl : m < l.length := by rw [HL.out]; exact hlt'
          rcases HR.out with h | ⟨b, o, rfl, hbw, hcell0⟩
          · exfalso; rw [h] at hkl; simp at hkl
          have hcell : wr.cell? ⟨b, o + m, none⟩ = some (.int .i64 (l[m]?.getD 0)) := (hb.out.cell (p := ⟨b, o + m, none⟩) hbw).trans (hcell0 m hkl)
          have hd := hid (drop_at l m hkl)
          clear hcell0 hbw hkl
          generalize l[m]?.getD 0 = e at hcell hd
          by_cases hz : onE c e = 0
          · have HZ := hid hz
            clear hz
            go_wp2_with (go_at_call 9; refine (ref_ok HZ.out _).mono ?_; rintro x w' ⟨rfl, rfl⟩)
            go_round
            case rel => exact ⟨m + 1, _, by omega, by go_num, rfl, hid (runS_dropok h1.out hd.out HZ.out), hid (runN_dropok h2.out hd.out HZ.out)⟩
            case measure => simp [intOf]; omega
          · have HZ := hid hz
            obtain ⟨d, hd0⟩ : ∃ d, onE c e = d := ⟨_, rfl⟩
            have hdz : (d != 0) = true := by rw [← hd0]; simpa using hz
            have HD := hid hd0
            have hs1 : Hid (runS s l = c) := hid (by rw [h1.out, hd.out, runS_bad HZ.out])
            have hn1 : Hid (runN s l = m) := hid (by rw [h2.out, hd.out, runN_bad HZ.out]; rfl)
            clear hz hd0
            go_wp2_with (first
              | (go_at_call 9; refine (ref_bad HD.out (by simpa using hdz) _).mono ?_; rintro x w' ⟨rfl, rfl⟩)
              | (go_at_call 10; refine (run_v hs1 hn1 _ _ _ _ HL.out (by omega) hev.out).mono ?_; rintro x w' ⟨rfl, rfl⟩))
            go_ret
            exact ⟨rfl, hb.out⟩
        · have hmk : m = k := by omega
          have hdr : l.drop m = [] := List.drop_eq_nil_of_le (by rw [HL.out]; omega)
          have hs1 : Hid (runS s l = c) := hid (by rw [h1.out, hdr]; rfl)
          have hn1 : Hid (runN s l = m) := hid (by rw [h2.out, hdr]; rfl)
          clear hmk hdr
          go_wp2_with (first
              | (go_at_call 10; refine (run_v hs1 hn1 _ _ _ _ HL.out (by omega) hev.out).mono ?_; rintro x w' ⟨rfl, rfl⟩))
          go_ret
          exact ⟨rfl, hb.out⟩
theorem runsW (s : Int) (_ : (Lit.int .i64 s).wf = true) (a : Option Addr) (len cap : Nat) (zs : List Int) {w0 : World} (hz : Laid.IsRow .i64 w0 a len cap zs) (w : World) (ht : TabNow w) (e : w0 = w := by rfl) :
    Calls Tryd.prog 3 #[.int .i64 s, .slice a len cap] w fun e w' => e = .returned (.bool true) ∧ Below w.heap.size w w' := by
  subst e
  obtain ⟨l, hl, hm, hr⟩ := ints_of_row hz
  by_cases h : 100 < len
  · exact runs_long s a len cap h hm w0 ht
  · exact runs_in s a len cap (by omega) l hl w0 hr ht
end Go.Proofs.YtgbjbmakjilddabDoor.St
