import Derived.Test.YthoammfpjheodaaRmD
import Derived.Test.YthoammfpjheodaaRmCz
import Derived.Test.YthoammfpjheodaaRbA
import Derived.ArgAppend
namespace Go.Proofs.Ythoammfpjheodaa.Rz
open Go.ChangeShapes Go.WideShapes Go.ChangeAt Go.RowKit Go.Shelf MK Go.Joins
open Base (hid cell_new1 cell_old1 froz_new1 froz_old1)
attribute [local go_sem] Oper.semAt_some
set_option linter.unusedVariables false
set_option linter.unusedSimpArgs false
set_option maxRecDepth 100000
/-! mixes: what lies in memory -/
/-- A message that came from outside. -/
structure MIn (w : World) (m : Mg) : Prop where
  txt : Txt w m.A m.x
  nil : m.A = none → m.c = 0
  cap : m.x.length ≤ m.c
  l : m.x.length ≤ 140737488351232
  by_ : By m.x
theorem MIn.below {w w' : World} {m : Mg} (h : MIn w m) (hb : Below w.heap.size w w') : MIn w' m := ⟨h.txt.below hb, h.nil, h.cap, h.l, h.by_⟩
def Mg.cells (m : Mg) : List Value := [.int .i64 m.s, .bool m.u, .slice m.A m.x.length m.c]
/-- Messages in a row. -/
structure MR (w : World) (A : Option Addr) (c : Nat) (l : List Mg) : Prop where
  cells : ∀ i (h : i < l.length), ∃ ad, A = some ad ∧ ad.block < w.heap.size ∧ ∀ k (hk : k < 3), w.cell? (ad.add (i * 3 + k)) = some (l[i].cells[k]'hk)
  inp : ∀ p ∈ l, MIn w p
  nil : A = none → c = 0
  cap : l.length ≤ c
theorem MR.below {w w' : World} {A : Option Addr} {c : Nat} {l : List Mg} (h : MR w A c l) (hb : Below w.heap.size w w') : MR w' A c l := by
  refine ⟨fun i hi => ?_, fun p hp => (h.inp p hp).below hb, h.nil, h.cap⟩
  obtain ⟨ad, e, hl, hc⟩ := h.cells i hi
  refine ⟨ad, e, Nat.lt_of_lt_of_le hl hb.size, fun k hk => (hb.cell (p := ad.add (i * 3 + k)) ?_).trans (hc k hk)⟩
  rw [add_block]
  exact hl
theorem MR.at {w : World} {A : Option Addr} {c : Nat} {l : List Mg} (h : MR w A c l) (i : Nat) (hi : i < l.length) : ∃ ad, A = some ad ∧ ad.block < w.heap.size ∧
    w.cell? (ad.add (i * 3)) = some (.int .i64 l[i].s) ∧ w.cell? ⟨(ad.add (i * 3)).block, (ad.add (i * 3)).off + 1, none⟩ = some (.bool l[i].u) ∧ w.cell? ⟨(ad.add (i * 3)).block, (ad.add (i * 3)).off + 2, none⟩ = some (.slice l[i].A l[i].x.length l[i].c) := by
  obtain ⟨ad, e, hb, h3⟩ := h.cells i hi
  exact ⟨ad, e, hb, h3 0 (by decide), (cell_add2 _ _ _ 1 (by decide)).trans (h3 1 (by decide)), (cell_add2 _ _ _ 2 (by decide)).trans (h3 2 (by decide))⟩
/-- Whole numbers in a row. -/
structure NR (w : World) (A : Option Addr) (c : Nat) (l : List Int) : Prop where
  cells : ∀ i (h : i < l.length), ∃ ad, A = some ad ∧ ad.block < w.heap.size ∧ w.cell? (ad.add i) = some (.int .i64 l[i])
theorem NR.below {w w' : World} {A : Option Addr} {c : Nat} {l : List Int} (h : NR w A c l) (hb : Below w.heap.size w w') : NR w' A c l := by
  refine ⟨fun i hi => ?_⟩
  obtain ⟨ad, e, hl, hc⟩ := h.cells i hi
  refine ⟨ad, e, Nat.lt_of_lt_of_le hl hb.size, (hb.cell (p := ad.add i) ?_).trans hc⟩
  rw [add_block]
  exact hl
/-! ### Cut -/
theorem cut_calls (w : World) (m : Mg) (tsn seq z : Int) (hm : MIn w m) :
    Calls Try.prog 12 #[msgV m.s m.u m.A m.x.length m.c, stV tsn seq z] w fun e w' => Below w.heap.size w w' ∧
      ((∃ v, e = .returned (.tuple #[.slice none 0 0, .iface 81 v])) ∨
       (∃ A' c' L, e = .returned (.tuple #[.slice A' L.length c', .nilIface]) ∧ goodN m.s m.x.length = true ∧ 1 ≤ z ∧ z ≤ 64 ∧ Row w' w.heap.size A' c' L ∧ (∀ q ∈ L, w'.ownsRow w.heap.size 5 1 (.slice q.A q.x.length q.c) q.x.length (q.x.map (.int .u8))) ∧ L.map core = cutL m.s m.u m.x tsn seq z.toNat)) := by
  cases hg : goodN m.s m.x.length with
  | false => exact (cut_bad _ _ _ _ _ _ _ _ _ hg).mono fun e w' ⟨h1, h2⟩ => ⟨h2, .inl ⟨_, h1⟩⟩
  | true =>
    by_cases hz : 1 ≤ z ∧ z ≤ 64
    · have hgg := hg
      unfold goodN at hgg
      simp only [Bool.and_eq_true, decide_eq_true_eq] at hgg
      obtain ⟨zn, rfl⟩ : ∃ zn : Nat, z = zn := ⟨z.toNat, by omega⟩
      obtain ⟨ad, hA, _, _⟩ := hm.txt 0 (by omega)
      have ht := hm.txt
      rw [hA] at ht ⊢
      unfold msgV
      rw [Int.toNat_natCast]
      cases hu : m.u with
      | true => exact (callsIn_wide.1 (cut_true m.s ad m.c m.x tsn seq zn w ht hm.cap hg (by omega))).mono fun e w' ⟨A', c', L, h1, h2, h3, h4, h5⟩ => ⟨h5, .inr ⟨A', c', L, h1, rfl, hz.1, hz.2, h2, h3, h4⟩⟩
      | false => exact (callsIn_wide.1 (cut_false m.s ad m.c m.x tsn seq zn w ht hm.cap hg (by omega))).mono fun e w' ⟨A', c', L, h1, h2, h3, h4, h5⟩ => ⟨h5, .inr ⟨A', c', L, h1, rfl, hz.1, hz.2, h2, h3, h4⟩⟩
    · exact (cut_size _ _ _ _ _ _ _ _ _ hg hz).mono fun e w' ⟨h1, h2⟩ => ⟨h2, .inl ⟨_, h1⟩⟩
/-! ### Messages of one each, the second anywhere -/
set_option maxHeartbeats 4000000 in
theorem msg1a_calls (w : World) (b1 : Nat) (ad : Addr) (cc : Nat) (s : Int) (u : Bool) (x : List Int) (A A' : Option Addr) (c c' : Nat) (h1 : MB w b1 s u A x.length c)
    (d0 : w.cell? ad = some (.int .i64 s)) (d1 : w.cell? ⟨ad.block, ad.off + 1, none⟩ = some (.bool u)) (d2 : w.cell? ⟨ad.block, ad.off + 2, none⟩ = some (.slice A' x.length c'))
    (t1 : Txt w A x) (t2 : Txt w A' x) (n1 : A = none → c = 0) (n2 : A' = none → c' = 0) (hb : By x) :
    Calls Try.prog 15 #[.slice (some ⟨b1, 0, none⟩) 1 1, .slice (some ad) 1 cc] w fun e w' => e = .returned (.bool true) ∧ ∃ n, w' = w.drewN n := by
  obtain ⟨a0, a1, a2, af⟩ := h1
  have hc1 : ∀ n, (convert 32 9 (.slice A x.length c)).run Try.prog (w.drewN n) = .ok (.string (strOf x)) (w.drewN n) := fun n => conv_txt (t1.below ((Below.refl _ _).drewN' n)) hb n1
  have hc2 : ∀ n, (convert 32 9 (.slice A' x.length c')).run Try.prog (w.drewN n) = .ok (.string (strOf x)) (w.drewN n) := fun n => conv_txt (t2.below ((Below.refl _ _).drewN' n)) hb n2
  clear t1 t2 n1 n2 hb
  go_enter Try.func15, Try.ntmps15
  go_wp2_with fail
  refine wp_loop_rounds 2 ?_
  rw [rounds_succ]
  go_wp2_with fail
  go_quiet (fail)
  go_wp2_with fail
  rw [rounds_succ]
  go_wp2
  go_ret
  exact ⟨rfl, _, rfl⟩
/-! ### rows of the first loop -/
def ints (l : List Nat) : List Value := l.map fun (n : Nat) => .int .i64 (n : Int)
structure P1 (wr : World) (B b0 g3 c3 g4 c4 g5 c5 : Nat) (all : List Pm) (of left : List Nat) : Prop where
  r3 : Row wr B (some ⟨g3, 0, none⟩) c3 all
  r4 : wr.ownsRow B 3 1 (.slice (some ⟨g4, 0, none⟩) of.length c4) of.length (ints of)
  r5 : wr.ownsRow B 3 1 (.slice (some ⟨g5, 0, none⟩) left.length c5) left.length (ints left)
  ne : g4 ≠ g5
  n3 : g3 ≠ b0
  n4 : g4 ≠ b0
  n5 : g5 ≠ b0
  tx : ∀ q ∈ all, wr.ownsRow B 5 1 (.slice q.A q.x.length q.c) q.x.length (q.x.map (.int .u8)) ∧ ∀ ad, q.A = some ad → ad.block ≠ b0
theorem ownBlock_ne {A : Option Addr} {n c b : Nat} (h : ∀ ad, A = some ad → ad.block ≠ b) : (Value.slice A n c).ownBlock = none ∨ (Value.slice A n c).ownBlock ≠ some b := by
  cases A with
  | none => exact .inl rfl
  | some ad => exact .inr fun e => h ad rfl (Option.some.inj e)
theorem P1.below {wr w' : World} {B b0 g3 c3 g4 c4 g5 c5 : Nat} {all : List Pm} {of left : List Nat} (h : P1 wr B b0 g3 c3 g4 c4 g5 c5 all of left) (hb : Below wr.heap.size wr w') : P1 w' B b0 g3 c3 g4 c4 g5 c5 all of left :=
  ⟨Base.ownsRow_later h.r3 hb, Base.ownsRow_later h.r4 hb, Base.ownsRow_later h.r5 hb, h.ne, h.n3, h.n4, h.n5, fun q hq => ⟨Base.ownsRow_later (h.tx q hq).1 hb, (h.tx q hq).2⟩⟩
theorem P1.at_ {wr w' : World} {B b0 g3 c3 g4 c4 g5 c5 : Nat} {all : List Pm} {of left : List Nat} (h : P1 wr B b0 g3 c3 g4 c4 g5 c5 all of left) (hg : wr.grownBy w' (some b0)) : P1 w' B b0 g3 c3 g4 c4 g5 c5 all of left :=
  ⟨World.ownsRow.kept h.r3 hg (.inr fun e => h.n3 (Option.some.inj e)), h.r4.kept hg (.inr fun e => h.n4 (Option.some.inj e)), h.r5.kept hg (.inr fun e => h.n5 (Option.some.inj e)), h.ne, h.n3, h.n4, h.n5, fun q hq => ⟨(h.tx q hq).1.kept hg (ownBlock_ne (h.tx q hq).2), (h.tx q hq).2⟩⟩
theorem P1.lt {wr : World} {B b0 g3 c3 g4 c4 g5 c5 : Nat} {all : List Pm} {of left : List Nat} (h : P1 wr B b0 g3 c3 g4 c4 g5 c5 all of left) : (B ≤ g3 ∧ g3 < wr.heap.size) ∧ (B ≤ g4 ∧ g4 < wr.heap.size) ∧ (B ≤ g5 ∧ g5 < wr.heap.size) :=
  ⟨own_base h.r3 rfl, own_base h.r4 rfl, own_base h.r5 rfl⟩
/-- A row that is a block. -/
theorem own_some {w : World} {B e s n : Nat} {v : Value} {xs : List Value} {b b' : Nat} (h : w.ownsRow B e s v n xs) (hv : v.ownBlock = some b ∨ v.ownBlock = some b') : ∃ g c, v = .slice (some ⟨g, 0, none⟩) n c ∧ (g = b ∨ g = b') := by
  rcases h.2 with ⟨rfl, _⟩ | ⟨g, cap, cur, rfl, _⟩
  · rcases hv with h | h <;> cases h
  · refine ⟨g, cap, rfl, ?_⟩
    rcases hv with h | h
    · exact .inl (Option.some.inj h)
    · exact .inr (Option.some.inj h)
theorem P1.app3 {w w' : World} {B b0 g3 c3 g4 c4 g5 c5 c3' : Nat} {A' : Option Addr} {all : List Pm} {of left : List Nat} {q : Pm} (h : P1 w B b0 g3 c3 g4 c4 g5 c5 all of left) (hr : Row w' B A' c3' (all ++ [q])) (hg : w.grownBy w' (some g3))
    (hat : (Value.slice A' (all.length + 1) c3').ownBlock = some g3 ∨ (Value.slice A' (all.length + 1) c3').ownBlock = some w.heap.size) (hb0 : b0 < w.heap.size)
    (hq : w.ownsRow B 5 1 (.slice q.A q.x.length q.c) q.x.length (q.x.map (.int .u8))) (hq0 : ∀ ad, q.A = some ad → ad.block ≠ b0) : ∃ g3', A' = some ⟨g3', 0, none⟩ ∧ P1 w' B b0 g3' c3' g4 c4 g5 c5 (all ++ [q]) of left := by
  have hr' : w'.ownsRow B 40 7 (.slice A' (all.length + 1) c3') (all.length + 1) (cellsP (all ++ [q])) := by
    have := hr
    unfold Row at this
    rwa [List.length_append, List.length_singleton] at this
  obtain ⟨g, c, e, hg2⟩ := own_some hr' hat
  simp only [Value.slice.injEq, true_and] at e
  obtain ⟨rfl, rfl⟩ := e
  have k45 : ∀ {g c : Nat} {n : Nat} {xs : List Value}, w.ownsRow B 3 1 (.slice (some ⟨g, 0, none⟩) n c) n xs → w'.ownsRow B 3 1 (.slice (some ⟨g, 0, none⟩) n c) n xs := fun h4 => World.ownsRow.kept h4 hg (own_apart h4 h.r3 (by decide))
  have kt : ∀ {A : Option Addr} {c : Nat} {n : Nat} {xs : List Value}, w.ownsRow B 5 1 (.slice A n c) n xs → w'.ownsRow B 5 1 (.slice A n c) n xs := fun h4 => World.ownsRow.kept h4 hg (own_apart h4 h.r3 (by decide))
  refine ⟨g, rfl, hr, k45 h.r4, k45 h.r5, h.ne, ?_, h.n4, h.n5, fun p hp => ?_⟩
  · have := h.n3
    omega
  · rcases List.mem_append.1 hp with h' | h'
    · exact ⟨kt (h.tx p h').1, (h.tx p h').2⟩
    · rw [List.mem_singleton.1 h']
      exact ⟨kt hq, hq0⟩
theorem ints_app (a b : List Nat) : ints (a ++ b) = ints a ++ ints b := List.map_append
theorem P1.app4 {w w' : World} {B b0 g3 c3 g4 c4 g5 c5 : Nat} {v' : Value} {all : List Pm} {of left : List Nat} {i : Nat} (h : P1 w B b0 g3 c3 g4 c4 g5 c5 all of left) (hr : w'.ownsRow B 3 1 v' (of.length + 1) (ints of ++ ints [i])) (hg : w.grownBy w' (some g4))
    (hat : v'.ownBlock = some g4 ∨ v'.ownBlock = some w.heap.size) (hb0 : b0 < w.heap.size) : ∃ g4' c4', v' = .slice (some ⟨g4', 0, none⟩) (of.length + 1) c4' ∧ P1 w' B b0 g3 c3 g4' c4' g5 c5 all (of ++ [i]) left := by
  obtain ⟨g, c, rfl, hg2⟩ := own_some hr hat
  have hl := h.lt
  refine ⟨g, c, rfl, World.ownsRow.kept h.r3 hg (own_apart h.r3 h.r4 (by decide)), ?_, World.ownsRow.kept h.r5 hg (.inr fun e => h.ne (Option.some.inj e).symm), ?_, h.n3, ?_, h.n5, fun p hp => ⟨World.ownsRow.kept (h.tx p hp).1 hg (own_apart (h.tx p hp).1 h.r4 (by decide)), (h.tx p hp).2⟩⟩
  · rw [List.length_append, List.length_singleton, ints_app]
    exact hr
  · have := h.ne
    omega
  · have := h.n4
    omega
theorem P1.app5 {w w' : World} {B b0 g3 c3 g4 c4 g5 c5 : Nat} {v' : Value} {all : List Pm} {of left : List Nat} {i : Nat} (h : P1 w B b0 g3 c3 g4 c4 g5 c5 all of left) (hr : w'.ownsRow B 3 1 v' (left.length + 1) (ints left ++ ints [i])) (hg : w.grownBy w' (some g5))
    (hat : v'.ownBlock = some g5 ∨ v'.ownBlock = some w.heap.size) (hb0 : b0 < w.heap.size) : ∃ g5' c5', v' = .slice (some ⟨g5', 0, none⟩) (left.length + 1) c5' ∧ P1 w' B b0 g3 c3 g4 c4 g5' c5' all of (left ++ [i]) := by
  obtain ⟨g, c, rfl, hg2⟩ := own_some hr hat
  have hl := h.lt
  refine ⟨g, c, rfl, World.ownsRow.kept h.r3 hg (own_apart h.r3 h.r5 (by decide)), World.ownsRow.kept h.r4 hg (.inr fun e => h.ne (Option.some.inj e)), ?_, ?_, h.n3, h.n4, ?_, fun p hp => ⟨World.ownsRow.kept (h.tx p hp).1 hg (own_apart (h.tx p hp).1 h.r5 (by decide)), (h.tx p hp).2⟩⟩
  · rw [List.length_append, List.length_singleton, ints_app]
    exact hr
  · have := h.ne
    omega
  · have := h.n5
    omega
theorem grown_fresh {w w1 w' : World} {g : Nat} (h1 : Below w.heap.size w w1) (hg : w1.grownBy w' (some g)) : w.grownBy w' (some g) :=
  ⟨hg.os.trans h1.os, hg.tape.trans h1.tape, hg.output.trans h1.output, Nat.le_trans h1.size hg.size, fun k hk hne => (hg.block k (Nat.lt_of_lt_of_le hk h1.size) hne).trans (h1.block k hk)⟩
/-- The cell of the next start. -/
structure AT (w : World) (b0 : Nat) (t q z : Int) : Prop where
  c0 : w.cell? ⟨b0, 0, none⟩ = some (.int .u32 t)
  c1 : w.cell? ⟨b0, 1, none⟩ = some (.int .u16 q)
  c2 : w.cell? ⟨b0, 2, none⟩ = some (.int .i64 z)
  fr : ∀ i, w.frozen? ⟨b0, i, none⟩ = false
theorem AT.lt {w : World} {b0 : Nat} {t q z : Int} (h : AT w b0 t q z) : b0 < w.heap.size := lt_of_cell h.c0
theorem AT.block {w w' : World} {b0 : Nat} {t q z : Int} (h : AT w b0 t q z) (hb : w'.heap[b0]? = w.heap[b0]?) : AT w' b0 t q z :=
  ⟨(World.cell?_of_block (a := ⟨b0, 0, none⟩) hb).trans h.c0, (World.cell?_of_block (a := ⟨b0, 1, none⟩) hb).trans h.c1, (World.cell?_of_block (a := ⟨b0, 2, none⟩) hb).trans h.c2, fun i => (World.frozen?_of_block (a := ⟨b0, i, none⟩) hb).trans (h.fr i)⟩
theorem AT.below {w w' : World} {b0 : Nat} {t q z : Int} (h : AT w b0 t q z) (hb : Below w.heap.size w w') : AT w' b0 t q z := h.block (hb.block b0 h.lt)
theorem AT.grown {w w' : World} {b0 : Nat} {t q z : Int} {row : Option Nat} (h : AT w b0 t q z) (hg : w.grownBy w' row) (hne : some b0 ≠ row) : AT w' b0 t q z := h.block (hg.block b0 h.lt hne)
theorem AT.new (w : World) (t q z : Int) (k : Nat) (hk : k = w.heap.size) : AT (w.alloc (.cells #[.int .u32 t, .int .u16 q, .int .i64 z] 26)) k t q z :=
  ⟨by rw [cell_new1 _ _ _ _ hk]; rfl, by rw [cell_new1 _ _ _ _ hk]; rfl, by rw [cell_new1 _ _ _ _ hk]; rfl, fun i => froz_new1 _ _ _ _ hk _⟩
theorem AT.set {w : World} {b0 : Nat} {t q z : Int} (h : AT w b0 t q z) (t' q' : Int) : AT ((w.setCell ⟨b0, 0, none⟩ (.int .u32 t')).setCell ⟨b0, 1, none⟩ (.int .u16 q')) b0 t' q' z := by
  obtain ⟨a0, a1, a2, af⟩ := h
  refine ⟨?_, ?_, ?_, fun i => by simpa using af i⟩
  · rw [World.cell?_setCell_other _ _ _ _ (by simp)]; exact World.cell?_setCell_same _ _ _ a0
  · exact World.cell?_setCell_same _ _ _ ((World.cell?_setCell_other _ _ _ _ (by simp)).trans a1)
  · rw [World.cell?_setCell_other _ _ _ _ (by simp), World.cell?_setCell_other _ _ _ _ (by simp)]; exact a2

theorem info3 : (Try.prog.info? 3).map (fun i => (i.zero, i.size, i.bytes)) = some (some (.int .i64 0), 1, 8) := by kernel_rfl
theorem ints_one : ∀ (l : List Nat), ∀ u ∈ ints l, u.oneCell' = true := by
  intro l u hu
  obtain ⟨n, _, rfl⟩ := List.mem_map.1 hu
  rfl
theorem wpList_app_int {ops : Array Oper} {rest : List Oper} {o : Oper} {a : Go.Act} {w : World} {Q : Exit → Go.Act → World → Prop} (hgd : o.guard = none) (s x : Operand)
    (ho : o.op = .call { callee := .builtin .append, args := #[s, x], argTypes := #[27, 27] }) (base g n c : Nat) (l : List Nat) (hs : a.eval s = .slice (some ⟨g, 0, none⟩) n c) (hown : w.ownsRow base 3 1 (.slice (some ⟨g, 0, none⟩) n c) n (ints l))
    (b v : Nat) (hx : a.eval x = .slice (some ⟨b, 0, none⟩) 1 1) (hc : w.cell? ⟨b, 0, none⟩ = some (.int .i64 (v : Int))) (hn : n ≤ 1000000) (hbase : base ≤ w.heap.size)
    (h : ∀ v' w', w'.ownsRow base 3 1 v' (n + 1) (ints l ++ ints [v]) → w.grownBy w' (some g) → (v'.ownBlock = some g ∨ v'.ownBlock = some w.heap.size) → wpList Try.prog ops Q rest (a.put o.dst v') w') :
    wpList Try.prog ops Q (o :: rest) a w := by
  obtain ⟨i0, hi, hi0, hi1, hi2⟩ := info_parts info3
  refine wpList_append_own_at w hgd s x 27 ho base 3 i0 (.int .i64 0) 1 8 Try.underlying27 hi hi0 hi1 hi2 rfl (by decide) (.slice (some ⟨g, 0, none⟩) n c) n (ints l) hs hown ⟨b, 0, none⟩ 1 1 (ints [v]) hx rfl (fun j u hj => ?_) (ints_one _) (by unfold maxLen; omega) (by omega) hbase (fun v' w' h1 h2 _ h4 => h v' w' h1 h2 h4)
  cases j with
  | zero =>
    rw [add0, hc]
    exact hj
  | succ j => simp [ints] at hj
/-! ### rows of the second loop -/
/-- A row that may be read. -/
structure Rd (w : World) (g : Nat) (cs : List Value) : Prop where
  lt : g < w.heap.size
  at_ : ∀ j u, cs[j]? = some u → w.cell? ⟨g, j, none⟩ = some u
theorem Rd.block {w w' : World} {g : Nat} {cs : List Value} (h : Rd w g cs) (hs : w.heap.size ≤ w'.heap.size) (hb : w'.heap[g]? = w.heap[g]?) : Rd w' g cs :=
  ⟨Nat.lt_of_lt_of_le h.lt hs, fun j u hj => (World.cell?_of_block (w := w) (a := ⟨g, j, none⟩) hb).trans (h.at_ j u hj)⟩
theorem Rd.below {w w' : World} {g : Nat} {cs : List Value} (h : Rd w g cs) (hb : Below w.heap.size w w') : Rd w' g cs := h.block hb.size (hb.block g h.lt)
theorem Rd.grown {w w' : World} {g : Nat} {cs : List Value} {row : Option Nat} (h : Rd w g cs) (hg : w.grownBy w' row) (hne : some g ≠ row) : Rd w' g cs := h.block hg.size (hg.block g h.lt hne)
theorem Rd.mv {w w' : World} {g bp mb : Nat} {cs : List Value} (h : Rd w g cs) (hm : Mv w w' bp mb) (h1 : g ≠ bp) (h2 : g ≠ mb) : Rd w' g cs := h.block hm.size (hm.block g h.lt h1 h2)
theorem Rd.of {w : World} {B e s n c g : Nat} {xs : List Value} (h : w.ownsRow B e s (.slice (some ⟨g, 0, none⟩) n c) n xs) : Rd w g xs := by
  refine ⟨(own_base h rfl).2, fun j u hj => ?_⟩
  have := h.cells (g := g) rfl j u hj
  rw [add0] at this
  exact this
theorem run_app_none {P : Program} {w : World} (t ty e : TypeId) (i : TypeInfo) (ht : P.underlying t = some (.slice e)) (hi : P.info? e = some i) (g n c : Nat) (a : Addr) (m2 : Nat) (hn : n ≤ c) :
    (Builtin.append_ #[t, t] ty #[.slice (some ⟨g, 0, none⟩) n c, .slice (some a) 0 m2]).run P w = .ok (.slice (some ⟨g, 0, none⟩) n c) w := by
  have := run_append_room_cells (P := P) w t ty e i ht hi g 0 n c a 0 m2 [] (by simp) (fun j u h => by simp at h) (fun u h => by cases h) (by omega) (fun j h => by simp at h) (fun j h => by simp at h)
  exact this
/-- append onto what is full. -/
theorem step_appR {w : World} {ops : Array Oper} {o : Oper} {a : Go.Act} {K : Go.Act → World → Prop} {Q : Exit → Go.Act → World → Prop} {E : Prop} (hgd : o.guard = none) (s x : Operand) (t : TypeId)
    (ho : o.op = .call { callee := .builtin .append, args := #[s, x], argTypes := #[t, t] }) (e : TypeId) (i : TypeInfo) (z : Value) (size bytes : Nat) (h1 : Try.prog.underlying t = some (.slice e)) (h2 : Try.prog.info? e = some i) (h3 : i.zero = some z) (h4 : i.size = size) (h5 : i.bytes = bytes) (h6 : z.cells.size = size) (h7 : 0 < size) (h8 : bytes ≤ 40)
    (g n : Nat) (olds : List Value) (hs : a.eval s = .slice (some ⟨g, 0, none⟩) n n) (hlo : olds.length = n * size) (hold : Rd w g olds)
    (ad : Addr) (m c : Nat) (news : List Value) (hx : a.eval x = .slice (some ad) m c) (hln : news.length = m * size) (hnew : ∀ j u, news[j]? = some u → w.cell? (ad.add j) = some u) (hnm : n + m ≤ 1000000)
    (h : ∀ g' c' w', Rd w' g' (olds ++ news) → n + m ≤ c' → w.grownBy w' none → (g' = g ∨ w.heap.size ≤ g') → K (a.put o.dst (.slice (some ⟨g', 0, none⟩) (n + m) c')) w') :
    if Region.wanted o (yielded ops a.tmps) = true then Oper.wp Try.prog o a w K Q else E := by
  have hw : Region.wanted o (yielded ops a.tmps) = true := by simp [Region.wanted, hgd]
  rw [if_pos hw]
  by_cases hm : m = 0
  · subst hm
    have hnil : news = [] := List.eq_nil_of_length_eq_zero (by rw [hln]; exact Nat.zero_mul _)
    subst hnil
    have hrun := run_app_none (P := Try.prog) (w := w) t o.type e i h1 h2 g n n ad c (Nat.le_refl _)
    unfold Oper.wp execOp
    simp only [ho, resolve, invoke, builtin, Sem.run_bind, Sem.run_pure, Result.andThen_ok, List.map_toArray, List.map_cons, List.map_nil, hs, hx, hrun]
    exact h g n w (by rw [List.append_nil]; exact hold) (Nat.le_refl _) (World.grownBy.refl _ _) (.inl rfl)
  · obtain ⟨v', w', hrun, hown, hg⟩ := run_append_arg_grows (P := Try.prog) w t o.type e i z size bytes h1 h2 h3 h4 h5 h6 h7 ⟨g, 0, none⟩ n n olds hlo (fun j u hj => by rw [add0]; exact hold.at_ j u hj) ad m c news hln hnew (by omega) (by unfold maxLen; omega) (Nat.le_trans (Nat.mul_le_mul (show n + m ≤ 1000000 from hnm) h8) (by decide))
    unfold Oper.wp execOp
    simp only [ho, resolve, invoke, builtin, Sem.run_bind, Sem.run_pure, Result.andThen_ok, List.map_toArray, List.map_cons, List.map_nil, hs, hx, hrun]
    rcases hown.2 with ⟨_, h0⟩ | ⟨g', c', cur, rfl, hb, hr⟩
    · omega
    · exact h g' c' w' (Rd.of (g := g') hown) hr.2.1 hg (.inr hb)
/-- How many are left of each message. -/
def leftV (n : Nat) (rm : List (Pm × Nat)) : List Nat := (List.range n).map (leftN rm)
theorem leftV_len (n : Nat) (rm : List (Pm × Nat)) : (leftV n rm).length = n := by simp [leftV]
theorem leftV_zero (gs : List (List Pm)) : gs.map List.length = leftV gs.length (remOf gs) := by
  unfold leftV
  apply List.ext_getElem
  · simp
  · intro i h1 h2
    simp only [List.getElem_map, List.getElem_range]
    rw [leftN_remOf gs i (by simpa using h1)]
theorem ints_at (n : Nat) (rm : List (Pm × Nat)) (i : Nat) (hi : i < n) : (ints (leftV n rm))[i]? = some (.int .i64 (leftN rm i : Nat)) := by
  unfold ints leftV
  simp [hi]
theorem leftV_rid (n : Nat) (rm : List (Pm × Nat)) (k : Nat) (hk : k < rm.length) : ints (leftV n (rid rm k)) = (ints (leftV n rm)).set rm[k].2 (.int .i64 (leftN (rid rm k) rm[k].2 : Nat)) := by
  apply List.ext_getElem
  · simp [ints, leftV]
  · intro i h1 h2
    have hi : i < n := by simpa [ints, leftV] using h1
    rw [List.getElem_set]
    have h := leftN_rid hk i
    split
    · rename_i e
      subst e
      simp [ints, leftV]
    · rename_i e
      rw [if_neg e] at h
      simp [ints, leftV]
      omega
theorem pick_lt (x : Int) (n : Nat) (h : 0 < n) (hn : n ≤ 1000000) : ∃ k : Nat, k < n ∧ wrap64 ((IntKind.u64.wrap x).tmod (n : Int)) = (k : Int) := by
  have e : IntKind.u64.wrap x = x % 18446744073709551616 := rfl
  rw [e, Int.tmod_eq_emod_of_nonneg (by omega)]
  generalize x % 18446744073709551616 = y
  have h1 := Int.emod_nonneg y (show (n : Int) ≠ 0 by omega)
  have h2 := Int.emod_lt_of_pos y (show (0 : Int) < n by omega)
  refine ⟨(y % (n : Int)).toNat, by omega, ?_⟩
  unfold wrap64
  omega
theorem Rd.piece {w : World} {g : Nat} {l : List Pm} (h : Rd w g (cellsP l)) (i : Nat) (hi : i < l.length) :
    w.cell? ⟨g, i * 7, none⟩ = some (.int .u32 l[i].t) ∧ w.cell? ⟨g, i * 7 + 1, none⟩ = some (.int .u16 l[i].s) ∧ w.cell? ⟨g, i * 7 + 2, none⟩ = some (.int .u16 l[i].q) ∧ w.cell? ⟨g, i * 7 + 3, none⟩ = some (.bool l[i].b) ∧
    w.cell? ⟨g, i * 7 + 4, none⟩ = some (.bool l[i].e) ∧ w.cell? ⟨g, i * 7 + 5, none⟩ = some (.bool l[i].u) ∧ w.cell? ⟨g, i * 7 + 6, none⟩ = some (.slice l[i].A l[i].x.length l[i].c) := by
  have h7 := fun k hk => h.at_ (i * 7 + k) _ (cellsP_get l i k hi hk)
  exact ⟨h7 0 (by decide), h7 1 (by decide), h7 2 (by decide), h7 3 (by decide), h7 4 (by decide), h7 5 (by decide), h7 6 (by decide)⟩
theorem Rd.num {w : World} {g : Nat} {l : List Nat} (h : Rd w g (ints l)) (i : Nat) (hi : i < l.length) : w.cell? ⟨g, i, none⟩ = some (.int .i64 (l[i] : Nat)) := h.at_ i _ (by unfold ints; simp [hi])
theorem grown_none_drew {w w' : World} (h : w.grownBy w' none) : w.grownBy w'.drew none := ⟨h.os, h.tape, h.output, h.size, h.block⟩
theorem Rd.take {w : World} {g : Nat} {cs : List Value} (h : Rd w g cs) (n : Nat) : Rd w g (cs.take n) := ⟨h.lt, fun j u hj => h.at_ j u (by
  rw [List.getElem?_take] at hj
  split at hj
  · exact hj
  · cases hj)⟩
/-- Where a row's rest begins. -/
def tlA (g c n s : Nat) : Addr := if c = n then ⟨g, 0, none⟩ else (⟨g, 0, none⟩ : Addr).add (n * s)
theorem Rd.drop {w : World} {g c n s : Nat} {cs : List Value} (h : Rd w g cs) (hc : cs.length ≤ c * s) : ∀ j u, (cs.drop (n * s))[j]? = some u → w.cell? ((tlA g c n s).add j) = some u := by
  intro j u hj
  rw [List.getElem?_drop] at hj
  have hlt := (List.getElem?_eq_some_iff.1 hj).1
  unfold tlA
  rw [if_neg (by rintro rfl; omega), add_addN, add0]
  exact h.at_ _ u hj
end Go.Proofs.Ythoammfpjheodaa.Rz
