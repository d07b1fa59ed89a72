import Derived.Test.YthoammfpjheodaaProg
import Derived.Maps.OwnIn
import Derived.Maps.OwnSet
import Derived.Maps.Views
import Derived.Lib.SlKeysI
import Derived.Below
namespace Go.Proofs.Ythoammfpjheodaa.MK
open Go.Maps Go.ChangeShapes Go.RowKit
set_option linter.unusedVariables false
/-- An element read as itself. -/
def heldE (v : Value) : Option (DataW Value × List MemPlace) := some (.held v, [])
/-- A kind of keys. -/
structure Keys (P : Program) (k : TypeId) (κ : Type) where
  lit : κ → Lit
  val : κ → Value
  ok : κ → Prop
  K : Keyed P k
  key : ∀ x, ok x → keyOf P k (val x) = some (lit x)
  inj : ∀ x y, lit x = lit y → x = y
  isKey : ∀ x, ok x → WideAt.IsKeyLit (lit x)
variable {P : Program} {k e t : TypeId} {κ : Type} {w w' : World} {b n sz : Nat} {f : κ → Option Value}
/-- Block b is a map that answers as f, of sz entries. -/
def MapIs (P : Program) (k : TypeId) (w : World) (Ks : Keys P k κ) (b n : Nat) (f : κ → Option Value) (sz : Nat) : Prop :=
  ∃ D : DataW Value, w.ownsMap P k heldE b n D ∧ (∀ x, Ks.ok x → has D (Ks.lit x) = (f x).isSome) ∧ (∀ x v, Ks.ok x → f x = some v → ∀ z, D.atKey (Ks.lit x) z = .held v) ∧ Maps.size D = sz
variable {Ks : Keys P k κ}
theorem MapIs.made (w : World) (Ks : Keys P k κ) : MapIs P k (w.alloc (.map #[] 0)) Ks w.heap.size 0 (fun _ => none) 0 :=
  ⟨.map [], World.ownsMap_made w P k heldE, fun x _ => rfl, (fun x v _ h => by cases h), rfl⟩
theorem MapIs.mono {n' : Nat} (h : MapIs P k w Ks b n f sz) (hn : n ≤ n') : MapIs P k w Ks b n' f sz := by
  obtain ⟨D, h1, h2⟩ := h
  exact ⟨D, h1.mono hn, h2⟩
theorem MapIs.lt (h : MapIs P k w Ks b n f sz) : b < w.heap.size := by
  obtain ⟨D, h1, h2⟩ := h
  exact h1.lt
theorem MapIs.kept {row : Option Nat} (h : MapIs P k w Ks b n f sz) (hg : w.grownBy w' row) (hne : some b ≠ row) : MapIs P k w' Ks b n f sz := by
  obtain ⟨D, h1, h2⟩ := h
  exact ⟨D, h1.kept hg hne, h2⟩
theorem MapIs.block (h : MapIs P k w Ks b n f sz) (hb : w'.heap[b]? = w.heap[b]?) : MapIs P k w' Ks b n f sz := by
  obtain ⟨D, ⟨es, clock, h1, h3⟩, h2⟩ := h
  exact ⟨D, ⟨es, clock, hb.trans h1, h3⟩, h2⟩
theorem MapIs.below (h : MapIs P k w Ks b n f sz) (hb : Below w.heap.size w w') : MapIs P k w' Ks b n f sz := h.block (hb.block b h.lt)
theorem MapIs.size_le (h : MapIs P k w Ks b n f sz) : sz ≤ n := by
  obtain ⟨D, h1, _, _, rfl⟩ := h
  exact h1.size_le
theorem MapIs.ext {g : κ → Option Value} (h : MapIs P k w Ks b n f sz) (hfg : ∀ x, Ks.ok x → f x = g x) : MapIs P k w Ks b n g sz := by
  obtain ⟨D, h1, h2, h3, h4⟩ := h
  exact ⟨D, h1, fun x hx => by rw [h2 x hx, hfg x hx], fun x v hx hv => h3 x v hx (by rw [hfg x hx]; exact hv), h4⟩
theorem at_none {D : DataW Value} {l : Lit} (h : has D l = false) (z : DataW Value) : D.atKey l z = z := atKey_of_not_has h z
theorem MapIs.lookup (h : MapIs P k w Ks b n f sz) (ht : P.underlying t = some (.map k e)) {z : Value} (hz : (zeroValue e).run P w = .ok z w) (x : κ) (hx : Ks.ok x) :
    (Instr.lookup t (.map (some b)) (Ks.val x) false).run P w = .ok ((f x).getD z) w := by
  obtain ⟨D, h1, h2, h3, h4⟩ := h
  obtain ⟨v, ps, hrun, hv⟩ := h1.lookup Ks.K ht hz (zd := .held z) (zp := []) rfl (Ks.key x hx)
  rw [hrun]
  cases hf : f x with
  | none =>
    rw [at_none (by rw [h2 x hx, hf]; rfl)] at hv
    simp [heldE] at hv
    rw [hv.1]
    rfl
  | some u =>
    rw [h3 x u hx hf] at hv
    simp [heldE] at hv
    rw [hv.1]
    rfl
theorem MapIs.look_ok (h : MapIs P k w Ks b n f sz) (ht : P.underlying t = some (.map k e)) {z : Value} (hz : (zeroValue e).run P w = .ok z w) (x : κ) (hx : Ks.ok x) :
    (Instr.lookup t (.map (some b)) (Ks.val x) true).run P w = .ok (.tuple #[(f x).getD z, .bool (f x).isSome]) w := by
  obtain ⟨D, h1, h2, h3, h4⟩ := h
  obtain ⟨v, ps, hrun, hv⟩ := h1.look_ok Ks.K ht hz (zd := .held z) (zp := []) rfl (Ks.key x hx)
  rw [hrun, h2 x hx]
  cases hf : f x with
  | none =>
    rw [at_none (by rw [h2 x hx, hf]; rfl)] at hv
    simp [heldE] at hv
    rw [hv.1]
    rfl
  | some u =>
    rw [h3 x u hx hf] at hv
    simp [heldE] at hv
    rw [hv.1]
    rfl
theorem MapIs.len (h : MapIs P k w Ks b n f sz) (ht : P.underlying t = some (.map k e)) (ty : TypeId) : (Builtin.len_ #[t] ty #[.map (some b)]).run P w = .ok (.int .i64 sz) w := by
  obtain ⟨D, h1, h2, h3, rfl⟩ := h
  exact h1.len ht ty
def upd [DecidableEq κ] (f : κ → Option Value) (x : κ) (v : Option Value) : κ → Option Value := fun y => if y = x then v else f y
theorem MapIs.store [DecidableEq κ] (h : MapIs P k w Ks b n f sz) (ht : P.underlying t = some (.map k e)) (hn : n < maxLen) (x : κ) (hx : Ks.ok x) (v : Value) :
    ∃ w', (Instr.mapUpdate t (.map (some b)) (Ks.val x) v).run P w = .ok () w' ∧ MapIs P k w' Ks b (n + 1) (upd f x (some v)) (if (f x).isSome then sz else sz + 1) ∧ w.mapTurned w' b := by
  obtain ⟨D, h1, h2, h3, h4⟩ := h
  obtain ⟨w', hrun, ho, hg⟩ := h1.store Ks.K ht hn (Ks.key x hx) (val := v) (d := .held v) (ps := []) rfl
  have hT := h1.tidy Ks.K
  refine ⟨w', hrun, ⟨_, ho, fun y hy => ?_, fun y u hy hu z => ?_, ?_⟩, hg⟩
  · unfold upd
    by_cases hyx : y = x
    · subst hyx
      rw [if_pos rfl, has_put_same h1.isMap (Ks.isKey _ hx)]
      rfl
    · rw [if_neg hyx, has_put_other (fun e => hyx (Ks.inj _ _ e)), h2 y hy]
  · unfold upd at hu
    by_cases hyx : y = x
    · subst hyx
      rw [if_pos rfl] at hu
      cases hu
      exact atKey_put_same h1.isMap (Ks.isKey _ hx) _ _
    · rw [if_neg hyx] at hu
      rw [atKey_put_other (fun e => hyx (Ks.inj _ _ e))]
      exact h3 y u hy hu z
  · rw [size_put hT, h2 x hx, h4]
theorem MapIs.drop [DecidableEq κ] (h : MapIs P k w Ks b n f sz) (ht : P.underlying t = some (.map k e)) (x : κ) (hx : Ks.ok x) (ty : TypeId) :
    ∃ w', (Builtin.delete_ #[t, k] ty #[.map (some b), Ks.val x]).run P w = .ok (.tuple #[]) w' ∧ MapIs P k w' Ks b n (upd f x none) (if (f x).isSome then sz - 1 else sz) ∧ w.mapTurned w' b := by
  obtain ⟨D, h1, h2, h3, h4⟩ := h
  obtain ⟨w', hrun, ho, hg⟩ := h1.drop Ks.K ht (Ks.key x hx) ty
  have hT := h1.tidy Ks.K
  refine ⟨w', hrun, ⟨_, ho, fun y hy => ?_, fun y u hy hu z => ?_, ?_⟩, hg⟩
  · unfold upd
    by_cases hyx : y = x
    · subst hyx
      rw [if_pos rfl, has_del_same]
      rfl
    · rw [if_neg hyx, has_del_other (fun e => hyx (Ks.inj _ _ e)), h2 y hy]
  · unfold upd at hu
    by_cases hyx : y = x
    · rw [if_pos hyx] at hu
      cases hu
    · rw [if_neg hyx] at hu
      rw [atKey_del_other (fun e => hyx (Ks.inj _ _ e))]
      exact h3 y u hy hu z
  · have hs := size_del (k := Ks.lit x) hT
    rw [h2 x hx, h4] at hs
    split
    · rename_i hb
      rw [if_pos hb] at hs
      omega
    · rename_i hb
      rw [if_neg hb] at hs
      omega
/-- Keys of an integer kind. -/
def intKs {q : IntKind} (hk : P.underlying k = some (.int q)) : Keys P k Int where
  lit := Lit.int q
  val := Value.int q
  ok := fun x => (Lit.int q x).wf = true
  K := int_keyed hk
  key := fun x hx => keyOf_int_mk hk hx
  inj := fun x y h => by cases h; rfl
  isKey := fun _ _ => trivial
/-- What the keys' iterator gives, as a list of keys. -/
theorem keys_perm (hk : P.underlying k = some (.int .i64)) {D : DataW Value} {ks ss : List Int} (hown : w.ownsMap P k heldE b n D) (hf : ∀ x, (Lit.int .i64 x).wf = true → has D (.int .i64 x) = decide (x ∈ ks)) (hn : ks.Nodup) (hw : ∀ x ∈ ks, (Lit.int .i64 x).wf = true) (hs : ss.Perm (intKeys D)) : ss.Perm ks := by
  refine hs.trans ?_
  obtain ⟨es, hD, hpw, _⟩ := hown.entries (int_keyed hk)
  obtain ⟨es', hD', hko⟩ := hown.keysOf
  obtain rfl : es = es' := by rw [hD] at hD'; simpa using hD'
  subst hD
  refine (perm_intKeys hpw (fun p hp => by obtain ⟨v, hv⟩ := hko p hp; obtain ⟨x, _, hx, _⟩ := Maps.keyOf_i64 hk hv; exact ⟨x, hx⟩) hn (fun x => ?_)).symm
  constructor
  · intro hx
    rw [hf x (hw x hx)]
    simpa using hx
  · intro hx
    have hx' : x ∈ intKeys (.map es) := by
      rw [has_eq, List.any_eq_true] at hx
      obtain ⟨p, hp, hs⟩ := hx
      obtain ⟨v, hv⟩ := hko p hp
      obtain ⟨y, _, hy, _⟩ := Maps.keyOf_i64 hk hv
      rw [hy] at hs
      exact List.mem_map.2 ⟨p, hp, by rw [hy]; simpa [Lit.sameKey, intOf] using hs⟩
    have hwx := intKeys_wf hown hk x hx'
    rw [hf x hwx] at hx
    simpa using hx
end Go.Proofs.Ythoammfpjheodaa.MK
