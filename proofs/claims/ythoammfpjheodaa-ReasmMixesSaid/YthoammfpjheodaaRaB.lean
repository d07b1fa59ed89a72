import Derived.Test.YthoammfpjheodaaRaA
import Derived.Lib.BufferRead
namespace Go.Proofs.Ythoammfpjheodaa.Rz
open Go.ChangeShapes Go.WideShapes Go.ChangeAt Go.RowKit Go.Shelf MK Go.Joins
open Base (hid cell_new1 cell_old1 froz_new1 froz_old1)
attribute [local go_sem] Oper.semAt_some
set_option linter.unusedVariables false
set_option linter.unusedSimpArgs false
set_option maxRecDepth 100000
def By (x : List Int) : Prop := ∀ b ∈ x, 0 ≤ b ∧ b < 256
def u8s (x : List Int) : List UInt8 := x.map fun b => UInt8.ofNat b.toNat
def strOf (x : List Int) : ByteArray := ⟨(u8s x).toArray⟩
theorem conv_txt {w : World} {A : Option Addr} {x : List Int} {c : Nat} (h : Txt w A x) (hb : By x) (hA : A = none → c = 0) :
    (convert 32 9 (.slice A x.length c)).run Try.prog w = .ok (.string (strOf x)) w := by
  cases A with
  | none =>
    have hl : x = [] := by
      cases x with
      | nil => rfl
      | cons y l =>
        obtain ⟨ad, e, _⟩ := h 0 (by simp)
        cases e
    subst hl
    obtain rfl := hA rfl
    exact Lib.run_convert_nil_bytes w 32 9 5 0 Try.underlying32 Try.underlying5 Try.underlying9
  | some ad =>
    have := run_convert_bytes_back w 32 9 5 ad c (u8s x) Try.underlying32 Try.underlying5 Try.underlying9 (fun j hj => by
      have hj' : j < x.length := by simpa [u8s] using hj
      obtain ⟨ad', e', _, hc⟩ := h j hj'
      cases e'
      rw [hc]
      have hbj := hb x[j] (List.getElem_mem hj')
      simp [u8s]
      omega)
    rw [show (u8s x).length = x.length from by simp [u8s]] at this
    exact this
set_option maxHeartbeats 1000000 in
theorem eqPiece_calls (w : World) (p q : Pm) (hp : Ok w p) (hq : Ok w q) (hb : By p.x) (h1 : q.t = p.t) (h2 : q.s = p.s) (h3 : q.q = p.q) (h4 : q.b = p.b) (h5 : q.e = p.e) (h6 : q.u = p.u) (h7 : q.x = p.x) :
    Calls Try.prog 110 #[p.val, q.val] w fun e w' => e = .returned (.bool true) ∧ Below w.heap.size w w' := by
  obtain ⟨t, s, sq, b, e, u, A, x, c⟩ := p
  obtain ⟨t', s', sq', b', e', u', A', x', c'⟩ := q
  dsimp only at h1 h2 h3 h4 h5 h6 h7 hb
  subst h1 h2 h3 h4 h5 h6 h7
  have hb12 : ∀ o1 o2, Below w.heap.size w ((w.alloc o1).alloc o2) := fun o1 o2 => below_alloc (below_alloc (Below.refl _ _) _) _
  have hc1 : ∀ o1 o2, (convert 32 9 (.slice A x'.length c)).run Try.prog ((w.alloc o1).alloc o2) = .ok (.string (strOf x')) ((w.alloc o1).alloc o2) := fun o1 o2 => conv_txt (hp.txt.below (hb12 o1 o2)) hb hp.nil
  have hc2 : ∀ o1 o2, (convert 32 9 (.slice A' x'.length c')).run Try.prog ((w.alloc o1).alloc o2) = .ok (.string (strOf x')) ((w.alloc o1).alloc o2) := fun o1 o2 => conv_txt (hq.txt.below (hb12 o1 o2)) hb hq.nil
  have HB := hid hb12
  clear hb12 hp hq hb
  unfold Pm.val
  go_enter Try.func110, Try.ntmps110
  go_wp2
  go_ret
  exact ⟨rfl, HB.out _ _⟩
/-- What two pieces have in common. -/
def core (p : Pm) : Pm := { p with A := none, c := 0 }
def Sim (l r : List Pm) : Prop := l.map core = r.map core
theorem core_eq {p q : Pm} (h : core p = core q) : q.t = p.t ∧ q.s = p.s ∧ q.q = p.q ∧ q.b = p.b ∧ q.e = p.e ∧ q.u = p.u ∧ q.x = p.x := by
  obtain ⟨t, s, sq, b, e, u, A, x, c⟩ := p
  obtain ⟨t', s', sq', b', e', u', A', x', c'⟩ := q
  simp [core] at h
  obtain ⟨rfl, rfl, rfl, rfl, rfl, rfl, rfl⟩ := h
  exact ⟨rfl, rfl, rfl, rfl, rfl, rfl, rfl⟩
theorem Sim.len {l r : List Pm} (h : Sim l r) : l.length = r.length := by
  have := congrArg List.length h
  simpa using this
theorem Sim.at {l r : List Pm} (h : Sim l r) (i : Nat) (hi : i < l.length) (hi' : i < r.length) : core l[i] = core r[i] := by
  have := List.getElem_of_eq h (i := i) (by simpa using hi)
  simpa using this
theorem InR.of_row {w : World} {B : Nat} {A : Option Addr} {c : Nat} {l : List Pm} (h : Row w B A c l) (hi : ∀ p ∈ l, Inp w p) (hl : l.length ≤ 1000000000) : InR w A c l := by
  refine ⟨fun i hi => ?_, hi, fun e => ?_, ?_, by omega⟩
  · obtain ⟨g, rfl, _, hg, hc⟩ := h.at i hi
    refine ⟨_, rfl, hg, fun k hk => ?_⟩
    rw [add0]
    exact hc k hk
  · subst e
    exact nil_row h
  · obtain ⟨a, c', e, h2⟩ := Base.slice_of_row h
    cases e
    exact h2
theorem below_step {a b c : World} (h : Below a.heap.size a b) (h2 : Below b.heap.size b c) : Below a.heap.size a c := h.trans (h2.mono h.size)
set_option maxHeartbeats 2000000 in
theorem eqPieces_calls (w : World) (A A' : Option Addr) (c c' : Nat) (l r : List Pm) (hl : InR w A c l) (hr : InR w A' c' r) (hs : Sim l r) (hx : ∀ p ∈ l, p.x.length ≤ 1000000) :
    Calls Try.prog 82 #[.slice A l.length c, .slice A' r.length c'] w fun e w' => e = .returned (.bool true) ∧ Below w.heap.size w w' := by
  have HL := hid hl
  have HR := hid hr
  have HS := hid hs
  have hlen := hs.len
  have HX := hid hx
  have HLEN := hid hlen
  rw [← hlen]
  clear hl hr hs hx hlen
  go_enter Try.func82, Try.ntmps82
  go_wp2
  go_loopw [13] (fun v13 wr => ∃ i : Nat, i ≤ l.length ∧ v13 = .int .i64 i ∧ Hid (Below w.heap.size w wr)) (fun v13 _ => l.length - numV v13)
  case atStart => exact ⟨0, Nat.zero_le _, rfl, hid (Below.refl _ _)⟩
  case round =>
    obtain ⟨i, hil, rfl, HW⟩ := hrel
    by_cases hlt : i < l.length
    · have hlt' : i < r.length := by rw [← HLEN.out]; exact hlt
      have hlr := HL.out.below HW.out
      have hrr := HR.out.below HW.out
      have hS : ∀ w', Below wr.heap.size wr w' → InR w' A c l ∧ InR w' A' c' r := fun w' hw' => ⟨hlr.below hw', hrr.below hw'⟩
      obtain ⟨ad, rfl, _⟩ := hlr.at i hlt
      obtain ⟨ad', rfl, _⟩ := hrr.at i hlt'
      obtain ⟨p, hp⟩ : ∃ p, l[i] = p := ⟨_, rfl⟩
      obtain ⟨q, hq⟩ : ∃ q, r[i] = q := ⟨_, rfl⟩
      have hc := HS.out.at i hlt hlt'
      rw [hp, hq] at hc
      obtain ⟨e1, e2, e3, e4, e5, e6, e7⟩ := core_eq hc
      have hip : Inp wr p := by rw [← hp]; exact hlr.inp _ (List.getElem_mem hlt)
      have hiq : Inp wr q := by rw [← hq]; exact hrr.inp _ (List.getElem_mem hlt')
      have hxl : p.x.length ≤ 1000000 := by rw [← hp]; exact HX.out _ (List.getElem_mem hlt)
      have hE : ∀ w', Below wr.heap.size wr w' → Calls Try.prog 110 #[p.val, q.val] w' fun e w'' => e = .returned (.bool true) ∧ Below w'.heap.size w' w'' := fun w' hw' =>
        eqPiece_calls w' p q ((hip.ok hxl).below hw') ((hiq.ok (by rw [e7]; exact hxl)).below hw') hip.by_ e1 e2 e3 e4 e5 e6 e7
      have hCL : ∀ w', Below wr.heap.size wr w' → (w'.cell? (ad.add (i * 7)) = some (.int .u32 p.t) ∧ w'.cell? ⟨(ad.add (i * 7)).block, (ad.add (i * 7)).off + 1, none⟩ = some (.int .u16 p.s) ∧ w'.cell? ⟨(ad.add (i * 7)).block, (ad.add (i * 7)).off + 2, none⟩ = some (.int .u16 p.q) ∧ w'.cell? ⟨(ad.add (i * 7)).block, (ad.add (i * 7)).off + 3, none⟩ = some (.bool p.b) ∧
          w'.cell? ⟨(ad.add (i * 7)).block, (ad.add (i * 7)).off + 4, none⟩ = some (.bool p.e) ∧ w'.cell? ⟨(ad.add (i * 7)).block, (ad.add (i * 7)).off + 5, none⟩ = some (.bool p.u) ∧ w'.cell? ⟨(ad.add (i * 7)).block, (ad.add (i * 7)).off + 6, none⟩ = some (.slice p.A p.x.length p.c)) := fun w' hw' => by
        obtain ⟨a, e, _, h⟩ := (hS w' hw').1.at i hlt
        cases e
        rw [hp] at h
        exact h
      have hCR : ∀ w', Below wr.heap.size wr w' → (w'.cell? (ad'.add (i * 7)) = some (.int .u32 q.t) ∧ w'.cell? ⟨(ad'.add (i * 7)).block, (ad'.add (i * 7)).off + 1, none⟩ = some (.int .u16 q.s) ∧ w'.cell? ⟨(ad'.add (i * 7)).block, (ad'.add (i * 7)).off + 2, none⟩ = some (.int .u16 q.q) ∧ w'.cell? ⟨(ad'.add (i * 7)).block, (ad'.add (i * 7)).off + 3, none⟩ = some (.bool q.b) ∧
          w'.cell? ⟨(ad'.add (i * 7)).block, (ad'.add (i * 7)).off + 4, none⟩ = some (.bool q.e) ∧ w'.cell? ⟨(ad'.add (i * 7)).block, (ad'.add (i * 7)).off + 5, none⟩ = some (.bool q.u) ∧ w'.cell? ⟨(ad'.add (i * 7)).block, (ad'.add (i * 7)).off + 6, none⟩ = some (.slice q.A q.x.length q.c)) := fun w' hw' => by
        obtain ⟨a, e, _, h⟩ := (hS w' hw').2.at i hlt'
        cases e
        rw [hq] at h
        exact h
      have HCL := hid hCL
      have HCR := hid hCR
      have HE := hid hE
      have hmx := HL.out.len
      unfold Pm.val at HE
      clear hS hp hq hc e1 e2 e3 e4 e5 e6 e7 hip hiq hxl hE hCL hCR hlr hrr
      go_wp2
      have HALL : Hid (∀ w', Below wr.heap.size wr w' → Below wr.heap.size wr w' ∧ w'.cell? (ad.add (i * 7)) = some (.int .u32 p.t) ∧ w'.cell? ⟨(ad.add (i * 7)).block, (ad.add (i * 7)).off + 1, none⟩ = some (.int .u16 p.s) ∧ w'.cell? ⟨(ad.add (i * 7)).block, (ad.add (i * 7)).off + 2, none⟩ = some (.int .u16 p.q) ∧ w'.cell? ⟨(ad.add (i * 7)).block, (ad.add (i * 7)).off + 3, none⟩ = some (.bool p.b) ∧ w'.cell? ⟨(ad.add (i * 7)).block, (ad.add (i * 7)).off + 4, none⟩ = some (.bool p.e) ∧ w'.cell? ⟨(ad.add (i * 7)).block, (ad.add (i * 7)).off + 5, none⟩ = some (.bool p.u) ∧ w'.cell? ⟨(ad.add (i * 7)).block, (ad.add (i * 7)).off + 6, none⟩ = some (.slice p.A p.x.length p.c) ∧ w'.cell? (ad'.add (i * 7)) = some (.int .u32 q.t) ∧ w'.cell? ⟨(ad'.add (i * 7)).block, (ad'.add (i * 7)).off + 1, none⟩ = some (.int .u16 q.s) ∧ w'.cell? ⟨(ad'.add (i * 7)).block, (ad'.add (i * 7)).off + 2, none⟩ = some (.int .u16 q.q) ∧ w'.cell? ⟨(ad'.add (i * 7)).block, (ad'.add (i * 7)).off + 3, none⟩ = some (.bool q.b) ∧ w'.cell? ⟨(ad'.add (i * 7)).block, (ad'.add (i * 7)).off + 4, none⟩ = some (.bool q.e) ∧ w'.cell? ⟨(ad'.add (i * 7)).block, (ad'.add (i * 7)).off + 5, none⟩ = some (.bool q.u) ∧ w'.cell? ⟨(ad'.add (i * 7)).block, (ad'.add (i * 7)).off + 6, none⟩ = some (.slice q.A q.x.length q.c)) := hid (fun w' hw' => by
        obtain ⟨k0, k1, k2, k3, k4, k5, k6⟩ := HCL.out w' hw'
        exact ⟨hw', k0, k1, k2, k3, k4, k5, k6, HCR.out w' hw'⟩)
      go_region_held3 (fun w' => Below wr.heap.size wr w' ∧ w'.cell? (ad.add (i * 7)) = some (.int .u32 p.t) ∧ w'.cell? ⟨(ad.add (i * 7)).block, (ad.add (i * 7)).off + 1, none⟩ = some (.int .u16 p.s) ∧ w'.cell? ⟨(ad.add (i * 7)).block, (ad.add (i * 7)).off + 2, none⟩ = some (.int .u16 p.q) ∧ w'.cell? ⟨(ad.add (i * 7)).block, (ad.add (i * 7)).off + 3, none⟩ = some (.bool p.b) ∧ w'.cell? ⟨(ad.add (i * 7)).block, (ad.add (i * 7)).off + 4, none⟩ = some (.bool p.e) ∧ w'.cell? ⟨(ad.add (i * 7)).block, (ad.add (i * 7)).off + 5, none⟩ = some (.bool p.u) ∧ w'.cell? ⟨(ad.add (i * 7)).block, (ad.add (i * 7)).off + 6, none⟩ = some (.slice p.A p.x.length p.c) ∧ w'.cell? (ad'.add (i * 7)) = some (.int .u32 q.t) ∧ w'.cell? ⟨(ad'.add (i * 7)).block, (ad'.add (i * 7)).off + 1, none⟩ = some (.int .u16 q.s) ∧ w'.cell? ⟨(ad'.add (i * 7)).block, (ad'.add (i * 7)).off + 2, none⟩ = some (.int .u16 q.q) ∧ w'.cell? ⟨(ad'.add (i * 7)).block, (ad'.add (i * 7)).off + 3, none⟩ = some (.bool q.b) ∧ w'.cell? ⟨(ad'.add (i * 7)).block, (ad'.add (i * 7)).off + 4, none⟩ = some (.bool q.e) ∧ w'.cell? ⟨(ad'.add (i * 7)).block, (ad'.add (i * 7)).off + 5, none⟩ = some (.bool q.u) ∧ w'.cell? ⟨(ad'.add (i * 7)).block, (ad'.add (i * 7)).off + 6, none⟩ = some (.slice q.A q.x.length q.c)) ((refine HALL.out _ ?_; first | exact Below.drew (Below.refl _ _) | assumption)) ((go_at_call 110; refine (HE.out _ (Below.drew (Below.refl _ _))).mono ?_; rintro e w9 ⟨rfl, hb9⟩; have hbn : Below wr.heap.size wr w9 := below_step (Below.drew (Below.refl _ _)) hb9))
      all_goals
        have hb9 := (‹Below wr.heap.size wr w9 ∧ _›).1
        have HW9 : Hid (Below w.heap.size w w9) := hid (below_step HW.out hb9)
        go_wp2
        go_roundw
        case rel => exact ⟨i + 1, by omega, by simp, HW9⟩
        case measure => simp [numV]; omega
    · obtain rfl : i = l.length := by omega
      go_wp2
      go_ret
      exact ⟨rfl, HW.out⟩
theorem num_calls (n : Int) (w : World) : Calls Try.prog 65 #[errV n] w fun e w' => e = .returned (.int .i64 n) ∧ w = w' := by
  by_cases h : n = 0
  · subst h
    rw [show errV 0 = .nilIface from rfl]
    go_enter Try.func65, Try.ntmps65
    go_wp2
    go_ret
    exact ⟨rfl, rfl⟩
  · rw [show errV n = .iface 81 (.int .i64 n) from if_neg h]
    have d1 : (n == 0) = false := by simpa using h
    have d2 : (n != 0) = true := by simpa using h
    have hta : ∀ (v : Value) (W : World), (Instr.typeAssert (.iface 81 v) 36 81 true).run Try.prog W = .ok (.tuple #[v, .bool true]) W := fun v W => by rfl
    go_enter Try.func65, Try.ntmps65
    go_wp2
    go_ret
    exact ⟨rfl, rfl⟩
end Go.Proofs.Ythoammfpjheodaa.Rz
