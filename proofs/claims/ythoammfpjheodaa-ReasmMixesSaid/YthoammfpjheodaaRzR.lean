import Derived.Test.YthoammfpjheodaaRzQ
import Derived.Shelf.SlIter.Collect
namespace Go.Proofs.Ythoammfpjheodaa.Rz
open Go.ChangeShapes Go.WideShapes Go.ChangeAt Go.RowKit Go.Shelf MK
open Base (hid cell_new1 cell_old1 froz_new1 froz_old1)
attribute [local go_sem] Oper.semAt_some
set_option linter.unusedVariables false
set_option linter.unusedSimpArgs false
theorem infoU : (Try.prog.info? 23).map (fun i => (i.zero, i.size, i.bytes)) = some (some (.int .u32 0), 1, 4) := by kernel_rfl
/-- Between two rounds of AppendSeq. -/
structure ApI (w0 : World) (g : Nat) (pre : List Int) (W : World) : Prop where
  box : ∃ v, W.cell? ⟨g, 0, none⟩ = some v ∧ W.ownsRow (g + 1) 23 1 v pre.length (pre.map (.int .u32))
  fr : W.frozen? ⟨g, 0, none⟩ = false
  below : Below w0.heap.size w0 W
theorem own_ne_walk {W : World} {B e s n : Nat} {v : Value} {xs : List Value} {r : Nat} {o : Obj} (h : W.ownsRow B e s v n xs) (ho : W.heap[r]? = some o) (hc : o.isCells = false) : v.ownBlock = none ∨ v.ownBlock ≠ some r := by
  rcases h.2 with ⟨e, _⟩ | ⟨g, cap, cur, e, hb, hg, _⟩
  · exact .inl (by rw [e]; rfl)
  · refine .inr fun e' => ?_
    rw [e] at e'
    simp [Value.ownBlock] at e'
    subst e'
    rw [hg] at ho
    cases ho
    cases hc
theorem ApI.from (w0 : World) (g : Nat) (hg : w0.heap.size ≤ g) : OwnFrom (g + 1) (ApI w0 g) := by
  intro pre W W' row h hgr hr
  obtain ⟨⟨v, hv, ho⟩, hf, hb⟩ := h
  have hl := lt_of_cell hv
  have hne : some g ≠ row := fun e => by have := (hr g e.symm).1; omega
  refine ⟨⟨v, hgr.cell (a := ⟨g, 0, none⟩) hv hne, ?_⟩, (World.frozen?_of_block (w := W) (hgr.block g hl hne)).trans hf, hb.grown hgr hb.size (fun k e => by have := (hr k e).1; omega)⟩
  cases row with
  | none =>
    refine ho.kept hgr ?_
    cases v.ownBlock with
    | none => exact .inl rfl
    | some _ => exact .inr (by simp)
  | some r =>
    obtain ⟨_, o, h1, h2⟩ := hr r rfl
    exact ho.kept hgr (own_ne_walk ho h1 h2)
set_option maxRecDepth 100000 in
set_option maxHeartbeats 1000000 in
theorem appendSeq_calls (gf : Nat) (lb : Array Value) (eg : ∀ args w, (callFunc gf args).run Try.prog w = .ok (.enter gf args) w) (N : Nat) (hN : N ≤ 1000) {S Sp : List Int → Prop} (w : World)
    (hseq : ∀ w1, Below w.heap.size w w1 → SeqPre FW 7 Try.prog gf lb (fun x : Int => #[Value.int .u32 x]) (fun pre x _ _ => pre.length < N) KeepsWalks S Sp w1) :
    CallsIn FW 8 Try.prog 108 #[.slice none 0 0, .func (.func gf) #[] lb] w fun e w' => ∃ A c ss, e = .returned (.slice A ss.length c) ∧ S ss ∧ w'.ownsRow w.heap.size 23 1 (.slice A ss.length c) ss.length (ss.map (.int .u32)) ∧ Below w.heap.size w w' := by
  obtain ⟨i0, hi, hz0, hz1, hz2⟩ := info_parts infoU
  refine callsIn_of_wp_marks Try.func108 rfl trivial ?_ rfl
  simp only [Try.ntmps108, List.size_toArray, List.length_cons, List.length_nil, Nat.reduceAdd, Nat.reduceSub, Array.replicate_succ, Array.replicate_zero, List.push_toArray, List.append_toArray, List.nil_append, List.cons_append]
  gi_wp2
  obtain ⟨W1, hW1⟩ : ∃ W1, W1 = w.alloc (.cells #[.slice none 0 0] 143) := ⟨_, rfl⟩
  rw [← hW1]
  have hs1 : W1.heap.size = w.heap.size + 1 := by rw [hW1]; simp
  have c1 : W1.cell? ⟨w.heap.size, 0, none⟩ = some (.slice none 0 0) := by rw [hW1]; exact cell_new1 _ _ _ _ rfl 0
  have f1 : W1.frozen? ⟨w.heap.size, 0, none⟩ = false := by rw [hW1]; exact froz_new1 _ _ _ _ rfl 0
  have hb1 : Below w.heap.size w W1 := by rw [hW1]; exact below_alloc (Below.refl _ _) _
  have HSQ := hid (hseq W1 hb1)
  clear hseq hW1
  refine range_pre_law (F := FW) rfl (by decide) (gf := gf) (lb := lb) rfl trivial eg
    HSQ.out (fun _ _ _ _ _ _ _ h _ _ _ => h) walksK_t walksK_b (Below.refl _ _) (fun _ => rfl)
    (ApI w w.heap.size) (fun _ _ => False) (by rw [hs1]; exact ApI.from _ _ (Nat.le_refl _)) (fun _ _ _ _ h _ _ => h) ?start ?a1 ?asg ?body
    (fun W => ∃ ss, S ss ∧ ApI w w.heap.size ss W) ?hd (fun _ _ _ h => h.elim) ?hend
  case asg =>
    intro lp x W K hK
    gi_wp2
    exact hK
  case hd =>
    rintro ys W hS h
    exact ⟨_, hS, h⟩
  case start =>
    exact ⟨⟨_, c1, World.ownsRow_nil _ _ _ _⟩, f1, hb1⟩
  case body =>
    rintro lp pre x V W hIV hVW hlp hlo hpx
    have hI := ApI.from w w.heap.size (Nat.le_refl _) pre V W (some lp) hIV hVW (fun r e => by cases e; exact ⟨by omega, hlo⟩)
    obtain ⟨⟨v, hv, ho⟩, hf, hb⟩ := hI
    have hl := lt_of_cell hv
    have HO := hid ho
    have HB := hid hb
    have HF := hid hf
    have HP : Hid (pre.length < N) := hid hpx
    clear hIV hVW hpx ho hb c1 f1
    gi_wp2_with (first
      | (gi_at_builtin; go_must (refine wpListIn_append_own _ rfl _ _ 143 rfl (w.heap.size + 1) 23 i0 (.int .u32 0) 1 4 Try.underlying143 hi hz0 hz1 hz2 rfl (by decide) _ _ _ rfl (HO.out.alloc _) ⟨W.heap.size, 0, none⟩ 1 1 [.int .u32 x] rfl rfl (cell_one_new _ _ _) (by simp [Value.oneCell']) (by have := HP.out; unfold maxLen; omega) (by have := HP.out; omega) (by have := hl; simp; omega) ?_; intro v' w3 hown' hg3 hnil3; have hg3' : (W.alloc (.cells #[.int .u32 x] 23)).grownBy w3 v.ownBlock := hg3; clear hg3 hnil3; obtain ⟨A', c', rfl, hc'⟩ := Base.slice_of_row hown'; have hne : v.ownBlock ≠ some w.heap.size := fun e => (by have := (HO.out.lt w.heap.size e).1; omega); have hv3 : w3.cell? ⟨w.heap.size, 0, none⟩ = some v := hg3'.cell (a := ⟨w.heap.size, 0, none⟩) ((cell_old1 _ _ _ hl 0).trans hv) (fun e => hne e.symm); have hf3 : w3.frozen? ⟨w.heap.size, 0, none⟩ = false := (World.frozen?_of_block (w := W.alloc (.cells #[.int .u32 x] 23)) (hg3'.block w.heap.size (by simp; omega) (fun e => hne e.symm))).trans ((froz_old1 _ _ _ hl 0).trans HF.out); have HO3 := hid hown'; have HG3 := hid hg3'; have HNE := hid hne; have HK1 : Hid (W.heap.size + 1 ≤ w3.heap.size) := hid (by have := hg3'.size; simpa using this); clear hown' hg3' hne hc'; try go_frame))
      | gi_round_op_a)
    have hgs := grownBy_setCell' w3 w.heap.size (.slice A' (pre.length + 1) c')
    have ka : KeepsOthers W (W.alloc (.cells #[.int .u32 x] 23)) := KeepsOthers.alloc _ _
    have kb : KeepsOthers (W.alloc (.cells #[.int .u32 x] 23)) w3 := KeepsOthers.of_grownBy HG3.out (fun j o e ho => by
      by_cases hc : o.isCells = true
      · exact hc
      · rcases own_ne_walk (HO.out.alloc _) ho (by simpa using hc) with h | h
        · rw [h] at e; cases e
        · exact absurd e h)
    have kc : KeepsOthers w3 (w3.setCell ⟨w.heap.size, 0, none⟩ (.slice A' (pre.length + 1) c')) := KeepsOthers.setCell _ _ _
    have k := (ka.trans kb).trans kc
    have hk1 := HK1.out
    refine ⟨k, k.walks, ⟨_, World.cell?_setCell_same _ _ _ hv3, ?_⟩, by simpa using hf3, ?_⟩
    · have := HO3.out.kept hgs (.inr fun e => by have := (HO3.out.lt w.heap.size e).1; omega)
      simpa using this
    · have h1 := HB.out.size
      refine ((below_alloc HB.out _).grown HG3.out (by simp; omega) (fun k e => by have := (HO.out.lt k e).1; omega)).grown hgs (by omega) (fun k e => by cases e; omega)
  case hend =>
    rintro D W2 hD ⟨ss, hS, ⟨v, hv, ho⟩, hf, hb⟩ hK
    have HK := hid hK
    have hD2 : D < W2.heap.size := (Array.getElem?_eq_some_iff.1 hK).1
    obtain ⟨A, c, rfl, _⟩ := Base.slice_of_row (by simpa using ho)
    clear hK
    gi_wp2
    have hg4 := grownBy_putObj' W2 D (.deferred none)
    refine ⟨by simp, .inl ⟨_, _, rfl, run_takeDeferred HK.out, ?_⟩⟩
    exact ⟨_, results_tmp rfl _ _ _, A, c, ss, rfl, hS, Base.ownsRow_base (ho.kept hg4 (own_ne_walk ho HK.out rfl)) (by omega), hb.grown hg4 hb.size (fun k e => by cases e; omega)⟩
theorem appendSeq_plain (gf : Nat) (lb : Array Value) (eg : ∀ args w, (callFunc gf args).run Try.prog w = .ok (.enter gf args) w) (N : Nat) (hN : N ≤ 1000) {S Sp : List Int → Prop} (w : World)
    (hseq : ∀ w1, Below w.heap.size w w1 → SeqPre FW 7 Try.prog gf lb (fun x : Int => #[Value.int .u32 x]) (fun pre x _ _ => pre.length < N) KeepsWalks S Sp w1) :
    Calls Try.prog 108 #[.slice none 0 0, .func (.func gf) #[] lb] w fun e w' => ∃ A c ss, e = .returned (.slice A ss.length c) ∧ S ss ∧ w'.ownsRow w.heap.size 23 1 (.slice A ss.length c) ss.length (ss.map (.int .u32)) ∧ Below w.heap.size w w' :=
  (callsIn_wide (n := 8)).1 (appendSeq_calls gf lb eg N hN w hseq)
theorem collect_calls (w : World) (bk mb n : Nat) (m : List Pm) (hk : w.cell? ⟨bk, 0, none⟩ = some (.map (some mb))) (hm : MapIs Try.prog 23 w KU mb n (fP m) m.length) (hu : ∀ t ∈ keys m, U32 t) (hl : m.length ≤ 1000) :
    Calls Try.prog 78 #[.func (.func 109) #[] #[.pointer (some ⟨bk, 0, none⟩)]] w fun e w' => ∃ (A : Option Addr) (c : Nat) (ss : List Int), e = .returned (.slice A ss.length c) ∧ (ss.Nodup ∧ (∀ x ∈ ss, U32 x) ∧ ∀ x, x ∈ ss ↔ x ∈ keys m) ∧ w'.ownsRow w.heap.size 23 1 (.slice A ss.length c) ss.length (ss.map (.int .u32)) ∧ Below w.heap.size w w' := by
  obtain ⟨D, h1, h2, h3, h4⟩ := hm
  have hlt := lt_of_cell hk
  have hap := appendSeq_plain 109 #[.pointer (some ⟨bk, 0, none⟩)] (enters_of Try.func109 (by kernel_rfl) rfl) m.length hl w (fun w1 hb => by
    have := keysU_seq 7 (by decide) bk mb n D w1 (Nat.lt_of_lt_of_le hlt hb.size) ((hb.cell (p := ⟨bk, 0, none⟩) hlt).trans hk) (by
      have hbl := h1.lt
      obtain ⟨es, clock, hb2, Ft, hs, hD⟩ := h1
      exact ⟨es, clock, (hb.block mb hbl).trans hb2, Ft, hs, hD⟩)
    rw [h4] at this
    exact this)
  have HAP := hid hap
  have key : ∀ ss, CollU D (fun _ => false) ss → ss.Nodup ∧ (∀ x ∈ ss, U32 x) ∧ ∀ x, x ∈ ss ↔ x ∈ keys m := by
    rintro ss ⟨k1, k2, k3⟩
    have hus : ∀ x ∈ ss, U32 x := fun x hx => by
      have := k2 x hx
      simp [Lit.wf, IntKind.min, IntKind.max, IntKind.signed, IntKind.bits] at this
      unfold U32
      omega
    refine ⟨k1, hus, fun x => ⟨fun hx => ?_, fun hx => ?_⟩⟩
    · have h5 := ((k3 x).1 hx).1
      rw [show (Lit.int .u32 x) = KU.lit x from rfl, h2 x (u_wf (hus x hx))] at h5
      unfold fP at h5
      rw [Option.isSome_map, Option.isSome_iff_exists] at h5
      obtain ⟨p, hp⟩ := h5
      obtain ⟨hp1, rfl⟩ := look_mem hp
      exact List.mem_map.2 ⟨p, hp1, rfl⟩
    · refine (k3 x).2 ⟨?_, rfl⟩
      rw [show (Lit.int .u32 x) = KU.lit x from rfl, h2 x (u_wf (hu x hx))]
      unfold fP
      rw [Option.isSome_map]
      cases hq : look m x with
      | some _ => rfl
      | none =>
        obtain ⟨p, hp, e⟩ := List.mem_map.1 hx
        exact absurd e (look_none hq p hp)
  have KEY := hid key
  clear h1 h2 h3 h4 hap key hk
  go_enter Try.func78, Try.ntmps78
  go_wp2_with (go_at_call 108; go_must (refine HAP.out.mono ?_; rintro e w' ⟨A, c, ss, rfl, hS, hO, hB⟩))
  go_ret
  exact ⟨A, c, ss, rfl, KEY.out ss hS, hO, hB⟩
theorem keys_calls (w : World) (mb : Nat) : Calls Try.prog 79 #[.map (some mb)] w fun e w' => e = .returned (.func (.func 109) #[] #[.pointer (some ⟨w.heap.size, 0, none⟩)]) ∧ w' = w.alloc (.cells #[.map (some mb)] 102) := by
  go_enter Try.func79, Try.ntmps79
  go_wp2
  go_ret
  exact ⟨rfl, rfl⟩
end Go.Proofs.Ythoammfpjheodaa.Rz
