import Derived.Test.YtidbkkebkgeioaaGreatTmLaw
import Derived.Test.YtidbkkebkgeioaaGreatTmD
import Derived.Test.YtidbkkebkgeioaaGreatBase
import Derived.WalkKit
import Derived.ProofKit
import Derived.OpenShut
import Derived.OwnWalk
import Derived.Below
import Derived.WalkSmall
import Derived.Maps.AppendAt
import Derived.WalkSpells
import Derived.Deep.RegionLaw
import Derived.Deep.AppendLies
import Derived.Laws.OwnMore
namespace Go.Proofs.YtidbkkebkgeioaaGreat.En
open Go.ChangeShapes Go.WideShapes Go.ChangeAt Go.RowKit
open Base (hid cell_new1 cell_old1 froz_new1 froz_old1)
attribute [local go_sem] Oper.semAt_some
set_option linter.unusedVariables false
set_option linter.unusedSimpArgs false
set_option maxRecDepth 100000
def ents (l : Tm.M) : List Value := l.flatMap fun p => [.int .i64 p.1, .int .i64 p.2]
theorem ents_append (a b : Tm.M) : ents (a ++ b) = ents a ++ ents b := List.flatMap_append
theorem ents_one (p : Int × Int) : ents [p] = [.int .i64 p.1, .int .i64 p.2] := rfl
theorem ents_len : ∀ l : Tm.M, (ents l).length = l.length * 2
  | [] => rfl
  | p :: l => by
    show (_ :: _ :: ents l).length = _
    simp [ents_len l]
    omega
theorem ents_get : ∀ (l : Tm.M) (i : Nat) (h : i < l.length), (ents l)[i * 2]? = some (.int .i64 l[i].1) ∧ (ents l)[i * 2 + 1]? = some (.int .i64 l[i].2)
  | [], i, h => by simp at h
  | p :: l, 0, h => ⟨rfl, rfl⟩
  | p :: l, i + 1, h => by
    have := ents_get l i (by simpa using h)
    have e1 : (i + 1) * 2 = i * 2 + 1 + 1 := by omega
    rw [e1]
    exact this
theorem ents_one' : ∀ (l : Tm.M), ∀ u ∈ ents l, u.oneCell' = true
  | [], u, h => by simp [ents] at h
  | p :: l, u, h => by
    have h' : u ∈ (.int .i64 p.1) :: (.int .i64 p.2) :: ents l := h
    rcases List.mem_cons.1 h' with rfl | h'
    · rfl
    rcases List.mem_cons.1 h' with rfl | h'
    · rfl
    exact ents_one' l u h'
theorem add0 (g i : Nat) : (⟨g, 0, none⟩ : Addr).add i = ⟨g, i, none⟩ := by
  unfold Addr.add
  split <;> simp_all
/-- A list of entries in memory, of its own block. -/
abbrev Own (w : World) (B : Nat) (A : Option Addr) (c : Nat) (l : Tm.M) : Prop := w.ownsRow B 66 2 (.slice A l.length c) l.length (ents l)
theorem Own.at {w : World} {B : Nat} {A : Option Addr} {c : Nat} {l : Tm.M} (h : Own w B A c l) (i : Nat) (hi : i < l.length) : ∃ ad, A = some ad ∧ B ≤ ad.block ∧ ad.block < w.heap.size ∧ w.cell? (ad.add (i * 2)) = some (.int .i64 l[i].1) ∧ w.cell? ⟨(ad.add (i * 2)).block, (ad.add (i * 2)).off + 1, none⟩ = some (.int .i64 l[i].2) := by
  have h0 := h
  rcases h.2 with ⟨_, h0⟩ | ⟨g, cap, cur, e, hb, hg, _⟩
  · omega
  · cases e
    refine ⟨⟨g, 0, none⟩, rfl, hb, (Array.getElem?_eq_some_iff.1 hg).1, h0.cells (g := g) rfl _ _ (ents_get l i hi).1, ?_⟩
    have := h0.cells (g := g) rfl _ _ (ents_get l i hi).2
    rw [add0] at this ⊢
    exact this
theorem own_base {w : World} {B : Nat} {e : TypeId} {size : Nat} {v : Value} {n : Nat} {xs : List Value} (h : w.ownsRow B e size v n xs) {k : Nat} (hk : v.ownBlock = some k) : B ≤ k ∧ k < w.heap.size := by
  rcases h.2 with ⟨rfl, _⟩ | ⟨g, cap, cur, rfl, hb, hg, _⟩
  · simp [Value.ownBlock] at hk
  · simp [Value.ownBlock] at hk
    subst hk
    exact ⟨hb, (Array.getElem?_eq_some_iff.1 hg).1⟩
theorem below_own {B : Nat} {w wr w2 : World} {e : TypeId} {size : Nat} {v : Value} {n : Nat} {xs : List Value} (o : Obj) (hb : Below B w wr) (hB : B ≤ wr.heap.size) (ho : wr.ownsRow B e size v n xs) (hg : (wr.alloc o).grownBy w2 v.ownBlock) : Below B w w2 :=
  (hb.alloc hB o).grown hg (by simp; omega) (fun k e => (own_base ho e).1)
theorem news2 (w : World) (x y : Int) : ∀ j u, [Value.int .i64 x, .int .i64 y][j]? = some u → (w.alloc (.cells #[.int .i64 x, .int .i64 y] 66)).cell? ((⟨w.heap.size, 0, none⟩ : Addr).add j) = some u := by
  intro j u hj
  rw [add0, cell_new1 _ _ _ _ rfl]
  simpa using hj
theorem info66 : (Tryz.prog.info? 66).map (fun i => (i.zero, i.size, i.bytes)) = some (some (.agg #[.int .i64 0, .int .i64 0]), 2, 16) := by kernel_rfl
theorem del_take (l : Tm.M) (k : Int) (i : Nat) (h : i < l.length) : Tm.del (l.take (i + 1)) k = if l[i].1 = k then Tm.del (l.take i) k else Tm.del (l.take i) k ++ [l[i]] := by
  unfold Tm.del
  rw [List.take_succ_eq_append_getElem h, List.filter_append]
  by_cases e : l[i].1 = k
  · rw [if_pos e]
    simp [e]
  · rw [if_neg e]
    simp [e]
theorem del_len (l : Tm.M) (k : Int) : (Tm.del l k).length ≤ l.length := List.length_filter_le _ _
set_option maxHeartbeats 4000000 in
theorem stop_calls (A : Option Addr) (c B : Nat) (l : Tm.M) (k : Int) (w : World) (h : Own w B A c l) (hl : l.length ≤ 1000000) :
    Calls Tryz.prog 26 #[.slice A l.length c, .int .i64 k] w fun e w' => ∃ A' c', e = .returned (.tuple #[.slice A' (Tm.del l k).length c', .bool (decide (((Tm.del l k).length : Int) < (l.length : Int)))]) ∧ Own w' w.heap.size A' c' (Tm.del l k) ∧ Below w.heap.size w w' := by
  obtain ⟨i0, hi, hi0, hi1, hi2⟩ := info_parts info66
  have H := hid h
  clear h
  go_enter Tryz.func26, Tryz.ntmps26
  go_wp2
  go_loopw [6, 7] (fun v6 v7 wr => ∃ (i n : Nat) (ds : Tm.M) (A' : Option Addr) (c' : Nat), i ≤ l.length ∧ v6 = .slice A' n c' ∧ v7 = .int .i64 i ∧ n ≤ i ∧ Hid (n = ds.length) ∧ Hid (ds = Tm.del (l.take i) k) ∧ Hid (wr.ownsRow w.heap.size 66 2 v6 n (ents ds)) ∧ Hid (Below w.heap.size w wr)) (fun _ v7 _ => l.length - (intOf v7).toNat)
  case atStart => exact ⟨0, 0, [], none, 0, Nat.zero_le _, rfl, rfl, Nat.le_refl _, hid rfl, hid rfl, hid (World.ownsRow_nil _ _ _ _), hid (Below.refl _ _)⟩
  case round =>
    obtain ⟨i, n, ds, A', c', hil, rfl, rfl, hn, HN, HD, HO, HB⟩ := hrel
    have hsr := HB.out.size
    by_cases hlt : i < l.length
    · obtain ⟨p, hp⟩ : ∃ p, l[i] = p := ⟨_, rfl⟩
      have H1 : Hid (Own wr B A c l) := hid (Base.ownsRow_later H.out HB.out)
      obtain ⟨ad, rfl, hb1, hb2, c0, c1⟩ := H1.out.at i hlt
      have ht := del_take l k i hlt
      rw [hp] at c0 c1 ht
      have HT := hid ht
      have hle := del_len (l.take (i + 1)) k
      rw [List.length_take] at hle
      have HLE := hid hle
      clear hp ht hle
      by_cases hk : p.1 = k
      · have hd : (p.1 != k) = false := by simpa using hk
        have HK := hid hk
        clear hk
        go_wp2
        go_roundw
        case rel => exact ⟨i + 1, n, ds, A', c', by omega, rfl, by go_num, by omega, HN, hid (by rw [HT.out, if_pos HK.out]; exact HD.out), HO, HB⟩
        case measure => simp [intOf]; omega
      · have hd : (p.1 != k) = true := by simpa using hk
        have HK := hid hk
        have hn2 : n + 1 ≤ 1000001 := by omega
        clear hk
        go_wp2_with (at_builtin; go_must (refine wpList_append_own_at _ rfl _ _ 26 rfl w.heap.size 66 i0 (.agg #[.int .i64 0, .int .i64 0]) 2 16 Tryz.underlying26 hi hi0 hi1 hi2 rfl (by decide) _ _ _ rfl (Base.ownsRow_later HO.out (Below.alloc (Below.refl _ _) (Nat.le_refl _) _)) ⟨wr.heap.size, 0, none⟩ 1 1 [.int .i64 p.1, .int .i64 p.2] rfl rfl ?news ?one ?c3 ?c4 ?c5 ?_))
        case news => exact news2 wr p.1 p.2
        case one => exact ents_one' [p]
        case c3 => unfold maxLen; omega
        case c4 => omega
        case c5 => simp; omega
        intro v2 w2 own2 hg2 _ _
        obtain ⟨A2, c2, rfl, _⟩ := Base.slice_of_row own2
        have HB2 := hid (below_own _ HB.out hsr HO.out hg2)
        have own3 : w2.ownsRow w.heap.size 66 2 (.slice A2 (n + 1) c2) (n + 1) (ents (ds ++ [p])) := by rw [ents_append]; exact own2
        have HO2 := hid own3
        clear own2 hg2 own3
        go_wp2
        go_roundw
        case rel => exact ⟨i + 1, n + 1, ds ++ [p], A2, c2, by omega, rfl, by go_num, by omega, hid (by rw [List.length_append]; have := HN.out; simp; omega), hid (by rw [HT.out, if_neg HK.out, HD.out]), HO2, HB2⟩
        case measure => simp [intOf]; omega
    · obtain rfl : i = l.length := by omega
      have e := HD.out
      rw [List.take_length] at e
      obtain rfl := e
      obtain rfl := HN.out
      go_wp2
      go_ret2
      exact ⟨A', c', rfl, HO.out, HB.out⟩
theorem step_app {w : World} {ops : Array Oper} {o : Oper} {a : Go.Act} {K : Go.Act → World → Prop} {Q : Exit → Go.Act → World → Prop} {E : Prop} (hgd : o.guard = none) (s x : Operand)
    (ho : o.op = .call { callee := .builtin .append, args := #[s, x], argTypes := #[26, 26] }) (B : Nat) (v : Value) (n : Nat) (l : Tm.M) (hs : a.eval s = v) (hown : w.ownsRow B 66 2 v n (ents l))
    (ad : Addr) (m c : Nat) (r : Tm.M) (hx : a.eval x = .slice (some ad) m c) (hl : r.length = m) (hnews : ∀ j u, (ents r)[j]? = some u → w.cell? (ad.add j) = some u) (hnm : n + m ≤ 1000000) (hB : B ≤ w.heap.size)
    (h : ∀ v' w', w'.ownsRow B 66 2 v' (n + m) (ents (l ++ r)) → w.grownBy w' v.ownBlock → K (a.put o.dst v') w') :
    if Region.wanted o (yielded ops a.tmps) = true then Oper.wp Tryz.prog o a w K Q else E := by
  obtain ⟨i0, hi, hi0, hi1, hi2⟩ := info_parts info66
  have hw : Region.wanted o (yielded ops a.tmps) = true := by simp [Region.wanted, hgd]
  rw [if_pos hw]
  obtain ⟨v', w', hr, h2, h3, h4, h5⟩ := run_append_own_at (P := Tryz.prog) (w := w) B 26 o.type 66 i0 (.agg #[.int .i64 0, .int .i64 0]) 2 16 Tryz.underlying26 hi hi0 hi1 hi2 rfl (by decide) v n (ents l) hown ad m c (ents r) (by rw [ents_len, hl]) hnews (ents_one' r) (by unfold maxLen; omega) (by omega) hB
  unfold Oper.wp execOp
  simp only [ho, resolve, invoke, builtin, Sem.run_bind, Sem.run_pure, Result.andThen_ok, List.map_toArray, List.map_cons, List.map_nil, hs, hx, hr]
  exact h v' w' (by rw [ents_append]; exact h2) h3
theorem step_none {w : World} {ops : Array Oper} {o : Oper} {a : Go.Act} {K : Go.Act → World → Prop} {Q : Exit → Go.Act → World → Prop} {E : Prop} (hgd : o.guard = none) (s x : Operand)
    (ho : o.op = .call { callee := .builtin .append, args := #[s, x], argTypes := #[26, 26] }) (B : Nat) (v : Value) (n : Nat) (l : Tm.M) (hs : a.eval s = v) (hown : w.ownsRow B 66 2 v n (ents l))
    (hx : a.eval x = .slice none 0 0) (h : K (a.put o.dst v) w) :
    if Region.wanted o (yielded ops a.tmps) = true then Oper.wp Tryz.prog o a w K Q else E := by
  obtain ⟨i0, hi, hi0, hi1, hi2⟩ := info_parts info66
  have hw : Region.wanted o (yielded ops a.tmps) = true := by simp [Region.wanted, hgd]
  rw [if_pos hw]
  have hr := run_append_owned_none (P := Tryz.prog) (w := w) B 26 o.type 66 i0 2 Tryz.underlying26 hi v n (ents l) hown
  unfold Oper.wp execOp
  simp only [ho, resolve, invoke, builtin, Sem.run_bind, Sem.run_pure, Result.andThen_ok, List.map_toArray, List.map_cons, List.map_nil, hs, hx, hr]
  exact h
theorem ents_drop : ∀ (l : Tm.M) (i : Nat), ents (l.drop i) = (ents l).drop (i * 2)
  | l, 0 => rfl
  | [], i + 1 => by simp [ents]
  | p :: l, i + 1 => by
    have e1 : (i + 1) * 2 = i * 2 + 1 + 1 := by omega
    rw [e1]
    exact ents_drop l i
theorem Own.src {w : World} {B : Nat} {ad : Addr} {c : Nat} {l : Tm.M} (h : Own w B (some ad) c l) (i : Nat) : ad.block < w.heap.size ∧ B ≤ ad.block ∧ ∀ j u, (ents (l.drop i))[j]? = some u → w.cell? ((ad.add (i * 2)).add j) = some u := by
  have h0 := h
  rcases h.2 with ⟨e, _⟩ | ⟨g, cap, cur, e, hb, hg, _⟩
  · cases e
  · cases e
    refine ⟨(Array.getElem?_eq_some_iff.1 hg).1, hb, fun j u hj => ?_⟩
    rw [ents_drop, List.getElem?_drop] at hj
    have := h0.cells (g := g) rfl _ _ hj
    have e2 : ((⟨g, i * 2, none⟩ : Addr)).add j = ⟨g, i * 2 + j, none⟩ := by
      unfold Addr.add
      split <;> simp_all
    rw [add0] at this ⊢
    rw [e2]
    exact this
theorem add_block (a : Addr) (j : Nat) : (a.add j).block = a.block := by
  unfold Addr.add
  split <;> rfl
theorem grown_of_drew {w w2 : World} {row : Option Nat} (h : w.drew.grownBy w2 row) : w.grownBy w2 row := ⟨h.os, h.tape, h.output, h.size, h.block⟩
/-- The place of the tail. -/
def tl (ad : Addr) (c i : Nat) : Addr := if c = i then ad else ad.add (i * 2)
theorem ins_take : ∀ (m : Tm.M) (n : Nat) (k v : Int), n ≤ m.length → (∀ j (h : j < m.length), j < n → m[j].1 < k) → (∀ h : n < m.length, ¬ m[n].1 < k) → Tm.ins m k v = m.take n ++ (k, v) :: m.drop n
  | [], n, k, v, _, _, _ => by simp [Tm.ins]
  | p :: m, 0, k, v, _, _, h => by
    have h' := h (by simp)
    simp only [List.getElem_cons_zero] at h'
    simp [Tm.ins, h']
  | p :: m, n + 1, k, v, hn, h1, h2 => by
    have hp : p.1 < k := h1 0 (by simp) (by omega)
    have := ins_take m n k v (by simpa using hn) (fun j hj hji => h1 (j + 1) (by simpa using hj) (by omega)) (fun h => h2 (by simpa using h))
    simp [Tm.ins, hp, this]
theorem set_bad (A : Option Addr) (c : Nat) (l : Tm.M) (k v : Int) (w : World) (hv : ¬ (0 ≤ v ∧ v ≤ 4611686018427387904)) :
    Calls Tryz.prog 24 #[.slice A l.length c, .int .i64 k, .int .i64 v] w fun e w' => e = .returned (.tuple #[.slice A l.length c, .int .i64 1]) ∧ w = w' := by
  by_cases h1 : v < 0
  · have d1 : decide (v < 0) = true := by simpa using h1
    clear hv
    go_enter Tryz.func24, Tryz.ntmps24
    go_wp2
    go_ret2
    exact ⟨rfl, rfl⟩
  · have d1 : decide (v < 0) = false := by simpa using h1
    have d2 : decide (4611686018427387904 < v) = true := by simp; omega
    clear hv h1
    go_enter Tryz.func24, Tryz.ntmps24
    go_wp2
    go_ret2
    exact ⟨rfl, rfl⟩
set_option maxHeartbeats 8000000 in
theorem set_ok (A : Option Addr) (c B : Nat) (l : Tm.M) (k v : Int) (w : World) (h : Own w B A c l) (hl : l.length ≤ 100000) (hv : 0 ≤ v ∧ v ≤ 4611686018427387904) :
    Calls Tryz.prog 24 #[.slice A l.length c, .int .i64 k, .int .i64 v] w fun e w' => ∃ A' c', e = .returned (.tuple #[.slice A' (Tm.put l k v).length c', .int .i64 0]) ∧ Own w' w.heap.size A' c' (Tm.put l k v) ∧ Below w.heap.size w w' := by
  obtain ⟨i0, hi, hi0, hi1, hi2⟩ := info_parts info66
  have hstop := stop_calls A c B l k w h (by omega)
  have hml := del_len l k
  unfold Tm.put
  obtain ⟨m, hm⟩ : ∃ m, Tm.del l k = m := ⟨_, rfl⟩
  rw [hm] at hstop hml ⊢
  have HS := hid hstop
  have d1 : decide (v < 0) = false := by simp; omega
  have d2 : decide (4611686018427387904 < v) = false := by simp; omega
  clear h hstop hm hv
  go_enter Tryz.func24, Tryz.ntmps24
  go_wp2_with (go_at_call 26; go_must (refine HS.out.mono ?_; rintro e w1 ⟨A8, c8, rfl, hO8, hB8⟩; have H8 := hid hO8; have HB8 := hid hB8; clear hO8 hB8))
  have hs1 := HB8.out.size
  go_loopw [10, 11] (fun v10 v11 wr => ∃ (i : Nat) (A' : Option Addr) (c' : Nat), i ≤ m.length ∧ v10 = .slice A' i c' ∧ v11 = .int .i64 i ∧ Hid (∀ j (h : j < m.length), j < i → m[j].1 < k) ∧ Hid (wr.ownsRow w1.heap.size 66 2 v10 i (ents (m.take i))) ∧ Hid (Below w1.heap.size w1 wr)) (fun _ v11 _ => m.length - (intOf v11).toNat)
  case atStart => exact ⟨0, none, 0, Nat.zero_le _, rfl, rfl, hid (fun j _ h => by omega), hid (World.ownsRow_nil _ _ _ _), hid (Below.refl _ _)⟩
  case round =>
    obtain ⟨i, A', c', hil, rfl, rfl, HJ, HO, HB⟩ := hrel
    have hsr := HB.out.size
    have H1 : Hid (Own wr w.heap.size A8 c8 m) := hid (Base.ownsRow_later H8.out HB.out)
    have key : ∀ (hge : ∀ h : i < m.length, ¬ m[i].1 < k), Tm.ins m k v = m.take i ++ (k, v) :: m.drop i := fun hge => ins_take m i k v hil HJ.out hge
    by_cases hlt : i < m.length
    · obtain ⟨p, hp⟩ : ∃ p, m[i] = p := ⟨_, rfl⟩
      obtain ⟨ad, hA8, hb1, hb2, c0, c1⟩ := H1.out.at i hlt
      rw [hp] at c0 c1
      by_cases hk : p.1 < k
      · have hd : decide (p.1 < k) = true := by simpa using hk
        have htk : m.take (i + 1) = m.take i ++ [p] := by rw [List.take_succ_eq_append_getElem hlt, hp]
        have HTK := hid htk
        have HK := hid hk
        have HP := hid hp
        subst hA8
        clear hk hp key htk
        go_wp2_with (at_builtin; go_must (refine wpList_append_own_at _ rfl _ _ 26 rfl w1.heap.size 66 i0 (.agg #[.int .i64 0, .int .i64 0]) 2 16 Tryz.underlying26 hi hi0 hi1 hi2 rfl (by decide) _ _ _ rfl (Base.ownsRow_later HO.out (Below.alloc (Below.refl _ _) (Nat.le_refl _) _)) ⟨wr.heap.size, 0, none⟩ 1 1 [.int .i64 p.1, .int .i64 p.2] rfl rfl ?news ?one ?c3 ?c4 ?c5 ?_))
        case news => exact news2 wr p.1 p.2
        case one => exact ents_one' [p]
        case c3 => unfold maxLen; omega
        case c4 => omega
        case c5 => simp; omega
        intro v2 w2 own2 hg2 _ _
        obtain ⟨A2, c2, rfl, _⟩ := Base.slice_of_row own2
        have HB2 := hid (below_own _ HB.out hsr HO.out hg2)
        have own3 : w2.ownsRow w1.heap.size 66 2 (.slice A2 (i + 1) c2) (i + 1) (ents (m.take (i + 1))) := by rw [HTK.out, ents_append]; exact own2
        have HO2 := hid own3
        clear own2 hg2 own3
        go_wp2
        go_roundw
        case rel =>
          refine ⟨i + 1, A2, c2, by omega, rfl, by go_num, hid (fun j hj hji => ?_), HO2, HB2⟩
          rcases Nat.lt_or_ge j i with h | h
          · exact HJ.out j hj h
          · obtain rfl : j = i := by omega
            rw [HP.out]
            exact HK.out
        case measure => simp [intOf]; omega
      · have hd : decide (p.1 < k) = false := by simpa using hk
        have hins := key (fun _ => by rw [hp]; exact hk)
        have HI := hid hins
        clear hk hp key hins
        subst hA8
        have hsrc := H1.out.src i
        have hsb := H8.out.src i
        have hc8 : m.length ≤ c8 := by
          obtain ⟨A, c, e, h⟩ := Base.slice_of_row H1.out
          cases e
          exact h
        have hnews : ∀ w2, (wr.alloc (.cells #[.int .i64 k, .int .i64 v] 66)).drew.grownBy w2 (Value.slice A' i c').ownBlock → ∀ j u, (ents (m.drop i))[j]? = some u → w2.cell? ((tl ad c8 i).add j) = some u := by
          intro w2 hg2 j u hj
          have hlt2 : i < m.length := by
            rcases Nat.lt_or_ge i m.length with h | h
            · exact h
            · rw [List.drop_eq_nil_of_le h] at hj
              simp [ents] at hj
          have e : tl ad c8 i = ad.add (i * 2) := if_neg (by omega)
          rw [e]
          have hbk : ((ad.add (i * 2)).add j).block = ad.block := by
            rw [add_block, add_block]
          refine ((hg2.cell_far _ ?_ ?_).trans ?_)
          · rw [hbk]
            simp
            have := hsrc.1
            omega
          · rw [hbk]
            intro e
            have := (own_base HO.out e.symm).1
            have := hsb.1
            omega
          · refine Eq.trans ?_ (hsrc.2.2 j u hj)
            refine World.cell?_of_block (w := wr) ?_
            rw [hbk]
            exact Below.heap_alloc _ _ _ hsrc.1
        have HN := hid hnews
        clear hsrc hsb hnews
        go_wp2
        go_region_law (first
          | (refine step_app rfl (.tmp 50) (.tmp 54) rfl w1.heap.size (.slice A' i c') i (m.take i) (by simp [Act.eval, Act.put]) (Base.ownsRow_later HO.out (Below.drew (Below.alloc (Below.refl _ _) (Nat.le_refl _) _))) ⟨wr.heap.size, 0, none⟩ 1 1 [(k, v)] (by simp [Act.eval, Act.put]) rfl (fun j u hj => news2 wr k v j u hj) (by omega) (by simp; omega) ?_
             intro v2 w2 own2 hg2
             obtain ⟨A2, c2, rfl, _⟩ := Base.slice_of_row own2)
          | (refine step_app rfl (.tmp 55) (.tmp 58) rfl w1.heap.size (.slice A2 (i + 1) c2) (i + 1) (m.take i ++ [(k, v)]) (by simp [Act.eval, Act.put]) own2 (tl ad c8 i) (m.length - i) (c8 - i) (m.drop i) (by simp [Act.eval, Act.put, tl]; split <;> rfl) (by simp) (HN.out w2 hg2) (by omega) (Nat.le_trans hsr (Nat.le_trans (by simp) hg2.size)) ?_
             intro v3 w3 own3 hg3
             obtain ⟨A3, c3, rfl, _⟩ := Base.slice_of_row own3))
        have hB2 := below_own _ HB.out hsr HO.out (grown_of_drew hg2)
        have hB3 : Below w1.heap.size w1 w3 := hB2.grown hg3 hB2.size (fun q e => (own_base own2 e).1)
        have HL : Hid (i + 1 + (m.length - i) = (Tm.ins m k v).length) := hid (by rw [HI.out]; simp; omega)
        have O3 : Hid (Own w3 w1.heap.size A3 c3 (Tm.ins m k v)) := hid (by
          have hxs : m.take i ++ [(k, v)] ++ m.drop i = Tm.ins m k v := by rw [HI.out]; simp
          rw [HL.out, hxs] at own3
          exact own3)
        have HB3 := hid hB3
        clear own2 own3 hg2 hg3 hB2 hB3
        go_wp2
        go_ret2
        exact ⟨A3, c3, by rw [HL.out]; rfl, Base.ownsRow_base O3.out hs1, HB8.out.trans (HB3.out.mono hs1)⟩
    · have hins := key (fun h => by omega)
      have HI := hid hins
      clear key hins
      go_wp2_with fail
      rcases Option.eq_none_or_eq_some A8 with rfl | ⟨ad, rfl⟩
      · have hm0 : m = [] := by
          rcases H1.out.2 with ⟨e, h0⟩ | ⟨g, cap, cur, e, _⟩
          · exact List.eq_nil_of_length_eq_zero h0
          · cases e
        subst hm0
        obtain rfl : i = 0 := by simpa using hil
        obtain rfl : c8 = 0 := by
          rcases H1.out.2 with ⟨e, h0⟩ | ⟨g, cap, cur, e, _⟩
          · cases e
            rfl
          · cases e
        go_wp2
        go_region_law (first
          | (refine step_app rfl (.tmp 50) (.tmp 54) rfl w1.heap.size (.slice A' 0 c') 0 [] (by simp [Act.eval, Act.put]) (Base.ownsRow_later HO.out (Below.drew (Below.alloc (Below.refl _ _) (Nat.le_refl _) _))) ⟨wr.heap.size, 0, none⟩ 1 1 [(k, v)] (by simp [Act.eval, Act.put]) rfl (fun j u hj => news2 wr k v j u hj) (by omega) (by simp; omega) ?_
             intro v2 w2 own2 hg2
             obtain ⟨A2, c2, rfl, _⟩ := Base.slice_of_row own2)
          | (refine step_none rfl (.tmp 55) (.tmp 58) rfl w1.heap.size (.slice A2 (0 + 1) c2) (0 + 1) ([] ++ [(k, v)]) (by simp [Act.eval, Act.put]) own2 (by simp [Act.eval, Act.put]) ?_))
        have hB2 := below_own _ HB.out hsr HO.out (grown_of_drew hg2)
        go_wp2
        go_ret2
        exact ⟨A2, c2, rfl, Base.ownsRow_base own2 hs1, HB8.out.trans (hB2.mono hs1)⟩
      · have hsrc := H1.out.src i
        have hsb := H8.out.src i
        have hc8 : m.length ≤ c8 := by
          obtain ⟨A, c, e, h⟩ := Base.slice_of_row H1.out
          cases e
          exact h
        have hnews : ∀ w2, (wr.alloc (.cells #[.int .i64 k, .int .i64 v] 66)).drew.grownBy w2 (Value.slice A' i c').ownBlock → ∀ j u, (ents (m.drop i))[j]? = some u → w2.cell? ((tl ad c8 i).add j) = some u := by
          intro w2 hg2 j u hj
          have hlt2 : i < m.length := by
            rcases Nat.lt_or_ge i m.length with h | h
            · exact h
            · rw [List.drop_eq_nil_of_le h] at hj
              simp [ents] at hj
          have e : tl ad c8 i = ad.add (i * 2) := if_neg (by omega)
          rw [e]
          have hbk : ((ad.add (i * 2)).add j).block = ad.block := by
            rw [add_block, add_block]
          refine ((hg2.cell_far _ ?_ ?_).trans ?_)
          · rw [hbk]
            simp
            have := hsrc.1
            omega
          · rw [hbk]
            intro e
            have := (own_base HO.out e.symm).1
            have := hsb.1
            omega
          · refine Eq.trans ?_ (hsrc.2.2 j u hj)
            refine World.cell?_of_block (w := wr) ?_
            rw [hbk]
            exact Below.heap_alloc _ _ _ hsrc.1
        have HN := hid hnews
        clear hsrc hsb hnews
        go_wp2
        go_region_law (first
          | (refine step_app rfl (.tmp 50) (.tmp 54) rfl w1.heap.size (.slice A' i c') i (m.take i) (by simp [Act.eval, Act.put]) (Base.ownsRow_later HO.out (Below.drew (Below.alloc (Below.refl _ _) (Nat.le_refl _) _))) ⟨wr.heap.size, 0, none⟩ 1 1 [(k, v)] (by simp [Act.eval, Act.put]) rfl (fun j u hj => news2 wr k v j u hj) (by omega) (by simp; omega) ?_
             intro v2 w2 own2 hg2
             obtain ⟨A2, c2, rfl, _⟩ := Base.slice_of_row own2)
          | (refine step_app rfl (.tmp 55) (.tmp 58) rfl w1.heap.size (.slice A2 (i + 1) c2) (i + 1) (m.take i ++ [(k, v)]) (by simp [Act.eval, Act.put]) own2 (tl ad c8 i) (m.length - i) (c8 - i) (m.drop i) (by simp [Act.eval, Act.put, tl]; split <;> rfl) (by simp) (HN.out w2 hg2) (by omega) (Nat.le_trans hsr (Nat.le_trans (by simp) hg2.size)) ?_
             intro v3 w3 own3 hg3
             obtain ⟨A3, c3, rfl, _⟩ := Base.slice_of_row own3))
        all_goals
          have hB2 := below_own _ HB.out hsr HO.out (grown_of_drew hg2)
          have hB3 : Below w1.heap.size w1 w3 := hB2.grown hg3 hB2.size (fun q e => (own_base own2 e).1)
          have HL : Hid (i + 1 + (m.length - i) = (Tm.ins m k v).length) := hid (by rw [HI.out]; simp; omega)
          have O3 : Hid (Own w3 w1.heap.size A3 c3 (Tm.ins m k v)) := hid (by
            have hxs : m.take i ++ [(k, v)] ++ m.drop i = Tm.ins m k v := by rw [HI.out]; simp
            rw [HL.out, hxs] at own3
            exact own3)
          have HB3 := hid hB3
          clear own2 own3 hg2 hg3 hB2 hB3
          go_wp2
          all_goals
            go_ret2
            exact ⟨A3, c3, by rw [HL.out]; rfl, Base.ownsRow_base O3.out hs1, HB8.out.trans (HB3.out.mono hs1)⟩
end Go.Proofs.YtidbkkebkgeioaaGreat.En
