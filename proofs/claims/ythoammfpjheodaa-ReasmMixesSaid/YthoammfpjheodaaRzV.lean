import Derived.Test.YthoammfpjheodaaRzU
namespace Go.Proofs.Ythoammfpjheodaa.Rz
open Go.ChangeShapes Go.WideShapes Go.ChangeAt Go.RowKit Go.Shelf MK Go.Joins
open Base (hid cell_new1 cell_old1 froz_new1 froz_old1)
attribute [local go_sem] Oper.semAt_some
set_option linter.unusedVariables false
set_option linter.unusedSimpArgs false
set_option maxRecDepth 100000
theorem Fresh.keys {B : Nat} {w : World} {m : List Pm} {ts : List Int} {l : List Pm} (h : Fresh B w m ts l) (hl : l.length = ts.length) : Rz.keys l = ts := by
  unfold Rz.keys
  refine List.ext_getElem (by simpa using hl) fun i h1 h2 => ?_
  rw [List.getElem_map]
  obtain ⟨p, hp, hc⟩ := h.at_ i (by simpa using h1) h2
  rw [hc.eq]
  exact (look_mem hp).2
theorem Fresh.held {B : Nat} {w : World} {m : List Pm} {ts : List Int} {l : List Pm} (h : Fresh B w m ts l) (hl : l.length = ts.length) : Rz.held l = (ts.map fun t => ((look m t).map fun p => p.x.length).getD 0).sum := by
  unfold Rz.held
  congr 1
  refine List.ext_getElem (by simpa using hl) fun i h1 h2 => ?_
  rw [List.getElem_map, List.getElem_map]
  obtain ⟨p, hp, hc⟩ := h.at_ i (by simpa using h1) (by simpa using h2)
  rw [hp, hc.eq]
  rfl
theorem sum_look {m : List Pm} (hn : (keys m).Nodup) : ((keys m).map fun t => ((look m t).map fun p => p.x.length).getD 0).sum = held m := by
  unfold held keys
  rw [List.map_map]
  congr 1
  refine List.map_congr_left fun p hp => ?_
  simp [look_some hn hp]
theorem Fresh.held_eq {B : Nat} {w : World} {m : List Pm} {f : Int} {l : List Pm} (h : Fresh B w m (ord f m) l) (hl : l.length = (ord f m).length) (hu : ∀ t ∈ Rz.keys m, U32 t) (hn : (Rz.keys m).Nodup) : Rz.held l = Rz.held m := by
  rw [h.held hl, ← sum_look hn]
  exact ((ord_perm f hu hn).map _).sum_nat
/-- What Put leaves. -/
structure Left (w' : World) (bp mb n : Nat) (m m' : List Pm) (t : Int) (ok : Bool) (er : Int) : Prop where
  bn : ∃ n', n' ≤ n + 1 ∧ Bn w' bp mb n' m'
  len : m'.length ≤ m.length + 1
  held : held m' ≤ 2000
  s : ∀ q ∈ m', 0 ≤ q.s ∧ q.s ≤ 65535
  out : (er ≠ 0 ∧ ok = false) ∨ (er = 0 ∧ ok = false ∧ m'.length = m.length + 1 ∧ (look m' t).isSome = true) ∨ (er = 0 ∧ ok = true ∧ (look m' t).isSome = false)
theorem off_len (m l : List Pm) : (off m l).length ≤ m.length := by
  unfold off
  induction l generalizing m with
  | nil => exact Nat.le_refl _
  | cons p l ih => exact Nat.le_trans (ih _) (by unfold del; exact List.length_filter_le _ _)
theorem put_left (w : World) (bp mb n : Nat) (m : List Pm) (p : Pm) (h : Bn w bp mb n m) (hn : n < 1000000) (hl : m.length ≤ 1000) (hp : Ok w p) (hA : 0 < p.x.length → ∀ ad, p.A = some ad → ad.block ≠ bp) (hh : held m ≤ 2000) (hs : 0 ≤ p.s ∧ p.s ≤ 65535) (hms : ∀ q ∈ m, 0 ≤ q.s ∧ q.s ≤ 65535) :
    Calls Try.prog 14 #[.pointer (some ⟨bp, 0, none⟩), p.val] w fun e w' => Mv w w' bp mb ∧ ∃ (m' : List Pm) (s : Int) (u : Bool) (A : Option Addr) (k c : Nat) (q : Int) (ok : Bool) (er : Int), e = .returned (.tuple #[.agg #[.int .i64 s, .bool u, .slice A k c, .int .u16 q], .bool ok, errV er]) ∧ Left w' bp mb n m m' p.t ok er := by
  refine (put_calls w bp mb n m p h hn hl hp hA (by omega) hs hms).mono ?_
  rintro e w' ⟨hm, hpp⟩
  refine ⟨hm, ?_⟩
  rcases hpp with ⟨h0, rfl, hb⟩ | ⟨h0, p', hp', hfr, hpp⟩
  · exact ⟨m, 0, false, none, 0, 0, 0, false, _, rfl, ⟨n, by omega, hb⟩, by omega, hh, hms, .inl ⟨h0, rfl⟩⟩
  · obtain ⟨hr, hlk, hmh⟩ := may_zero h0
    have ht : p'.t = p.t := by rw [hp']
    have hx : p'.x = p.x := by rw [hp']
    have hms' : ∀ q ∈ m ++ [p'], 0 ≤ q.s ∧ q.s ≤ 65535 := fun q hq => by
      rcases List.mem_append.1 hq with hq | hq
      · exact hms q hq
      · rw [List.mem_singleton.1 hq, hp']; exact hs
    have hlk' : look (m ++ [p']) p.t = some p' := by
      rw [look_app m p' p.t (by rw [ht]; exact hlk), ht, if_pos rfl]
    have hnd : (Rz.keys (m ++ [p'])).Nodup := nodup_app h.nod (by rw [ht]; exact hlk)
    have hu : U32 p.t := hp.u
    have hhl : held (m ++ [p']) ≤ 2000 := by rw [held_app, hx]; omega
    rcases hpp with ⟨hc, rfl, hb⟩ | ⟨hc, hb, hw⟩
    · exact ⟨_, 0, false, none, 0, 0, 0, false, 0, rfl, ⟨n + 1, by omega, hb⟩, by simp, hhl, hms', .inr (.inl ⟨rfl, rfl, by simp, by rw [hlk']; rfl⟩)⟩
    · have hkp : p.t ∈ Rz.keys (part (m ++ [p']) p) := part_has hnd ⟨p', by simp, ht, by rw [hp']⟩ hu
      have hno : (look (off (m ++ [p']) (part (m ++ [p']) p)) p.t).isSome = false := by
        cases hq : look (off (m ++ [p']) (part (m ++ [p']) p)) p.t with
        | none => rfl
        | some q =>
          obtain ⟨h1, h2⟩ := look_mem hq
          have := ((off_mem _ _).1 h1).2
          rw [h2] at this
          exact absurd hkp this
      have hlen := off_len (m ++ [p']) (part (m ++ [p']) p)
      have hhe := held_le (m := m ++ [p']) (part (m ++ [p']) p)
      rcases hw with ⟨_, rfl⟩ | ⟨s, u, x, q, A2, c2, _, _, rfl, _⟩
      · exact ⟨_, 0, false, none, 0, 0, 0, false, 2, rfl, ⟨n + 1, by omega, hb⟩, by simpa using hlen, by omega, fun q hq => hms' q ((off_mem _ _).1 hq).1, .inl ⟨by decide, rfl⟩⟩
      · exact ⟨_, s, u, A2, x.length, c2, q, true, 0, rfl, ⟨n + 1, by omega, hb⟩, by simpa using hlen, by omega, fun q hq => hms' q ((off_mem _ _).1 hq).1, .inr (.inr ⟨rfl, rfl, hno⟩)⟩
end Go.Proofs.Ythoammfpjheodaa.Rz
