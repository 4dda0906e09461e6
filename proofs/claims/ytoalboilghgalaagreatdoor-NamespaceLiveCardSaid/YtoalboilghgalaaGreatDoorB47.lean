/- Lemmas for this claim, in parts: Nslaw. -/
import Derived.Test.YtoalboilghgalaaGreatDoorB01
import Derived.Test.YtoalboilghgalaaGreatDoorB44
import Derived.Test.YtoalboilghgalaaGreatDoorB45
import Derived.Test.YtoalboilghgalaaGreatDoorB46
import Derived.Deep.DeepCutAuto
set_option maxRecDepth 100000
set_option maxHeartbeats 4000000
set_option linter.unusedVariables false
set_option linter.unusedSimpArgs false
/- NamespaceLive: the law. -/
namespace Go.Proofs.YtoalboilghgalaaGreatDoor
open Go.RowKit
open Go.Proofs.Dc (V Ds Ky)
attribute [local go_sem] run_store_float

attribute [local go_sem] Oper.semAt_some
theorem NamesAt.weak {n0 n1 : Nat} {W : World} {A : Option Addr} {qs : List ByteArray} (h : NamesAt n0 W A qs) (hn : n0 ≤ n1) : NamesAt n1 W A qs := fun i q hi => by
  obtain ⟨b, off, h1, h2, h3⟩ := h i q hi
  exact ⟨b, off, h1, Nat.lt_of_lt_of_le h2 hn, h3⟩
theorem field83 (n : Int) (w : World) : (Instr.field 83 (.agg (fArr n)) 0).run Tryz.prog w = .ok (.int .i64 n) w := by kernel_rfl
theorem ArgAt.fix {n0 : Nat} {w : World} {B : Option Addr} {ps : List (Ky × Ds)} (h : ArgAt n0 w B ps) {i : Nat} (hi : i < ps.length) : ∃ b off, B = some ⟨b, off, none⟩ ∧ ∀ W, Below n0 w W → W.rangeAt b (off + i * 20) (pCells (ps[i]'hi)) := by
  obtain ⟨b, off, h1, h2, h3, h4⟩ := h i hi
  refine ⟨b, off, h1, fun W hb j v hv => (World.cell?_of_block (w := w) (a := ⟨b, _, none⟩) (hb.block b h2)).trans (h4 j v hv)⟩
theorem arg_val {W : World} {b o : Nat} {x : Ky × Ds} (h : W.rangeAt b o (pCells x)) : W.rangeAt b (o + 2) [.int .i64 x.2.val.kind, .bool x.2.val.bool, .float .f64 x.2.val.num, .string x.2.val.str, .int .i64 x.2.val.id] := range_sub h 2 fun j hj => by
  match j, hj with
  | 0, _ => rfl
  | 1, _ => rfl
  | 2, _ => rfl
  | 3, _ => rfl
  | 4, _ => rfl
theorem NsAt.tabs {n0 : Nat} {W : World} {hb : Nat} {ov : Value} {ob xb g xc : Nat} {a : Option Addr} {l : List Ex} {F : Int} (h : NsAt n0 W hb ov ob xb g xc a l F) : Tabs W := by
  obtain ⟨tp, L, s, _⟩ := h; exact s.tabs
theorem ns_check (v : V) (hv : v.num < 2 ^ 64) : ∃ n : Int, (n = 0 → Dc.good uvalid v = true ∧ lostV v = false) ∧ ∀ (n0 : Nat) (W : World) (hb : Nat) (ov : Value) (ob xb g xc : Nat) (a : Option Addr) (l : List Ex) (F : Int), NsAt n0 W hb ov ob xb g xc a l F → Calls Tryz.prog 43 #[.pointer (some ⟨hb, 0, none⟩), .agg (vArr v)] W fun e w' => e = .returned (.int .i64 n) ∧ Below W.heap.size W w' := by
  refine ⟨if Dc.good uvalid v then (if lostV v then 4 else 0) else 5, fun h => ?_, fun n0 W hb ov ob xb g xc a l F h => ?_⟩
  · cases h1 : Dc.good uvalid v
    · simp [h1] at h
    · cases h2 : lostV v
      · exact ⟨rfl, rfl⟩
      · simp [h1, h2] at h
  · obtain ⟨tp, L, s, _⟩ := h
    exact hcheck_any s v hv
theorem kgood_str {k : Ky} (h : kgood k = true) : k.str.size + 2 ≤ 1099511627776 := by
  unfold kgood at h
  simp only [Bool.or_eq_true, Bool.and_eq_true, decide_eq_true_eq, Dc.isE, beq_iff_eq] at h
  rcases h with h | h
  · have := h.2.1; omega
  · have := h.2; omega
theorem hasB_of {qs ns : List ByteArray} (hp : ns.Perm qs) (q : ByteArray) {b : Bool} (h : b = true ↔ q ∈ ns) : hasB qs q = b := by
  have h2 : hasB qs q = true ↔ b = true := by rw [hasB_iff, h]; exact hp.mem_iff.symm
  cases h3 : hasB qs q <;> cases b <;> simp_all
/-- the receiver, as the law takes it -/
def RvOk (rv : V) : Prop := rv.num < 2 ^ 64 ∧ wrongV [rv] = 0
theorem rvok_null : RvOk vN := ⟨by decide, by kernel_rfl⟩
theorem rvok_of {rv : V} (hn : rv.num < 2 ^ 64) (hg : Dc.good uvalid rv = true) (hk : ¬ rv.kind = 7) : RvOk rv := ⟨hn, by simp [wrongV, hg, lostV, hk]⟩
theorem ns_big (w : World) (A B : Option Addr) (qs : List ByteArray) (ps : List (Ky × Ds)) (ca cb : Nat) (rv : V) (hrn : rv.num < 2 ^ 64) (hT : Tabs w) (hA : NamesAt w.heap.size w A qs) (hB : ArgAt w.heap.size w B ps) (hnums : ∀ p ∈ ps, Nums p.2) (hW : ∀ W, Below w.heap.size w W → Calls Tryz.prog 38 #[] W fun e w' => e = .returned (.bool true) ∧ Below W.heap.size W w') (hbig : 60 < qs.length ∨ 60 < ps.length) : Calls Tryz.prog 5 #[.slice A qs.length ca, .slice B ps.length cb, .agg (vArr rv)] w fun e w' => e = .returned (.bool true) ∧ Below w.heap.size w w' := by
  have HW := Lib.hid hW
  clear hW hA hB hnums hT hrn
  by_cases h1 : 60 < qs.length
  · have e1 : (60 : Int) < (qs.length : Int) := by omega
    go_enter Tryz.func5, Tryz.ntmps5
    go_wp2_with (first | ((with_reducible show wpList _ _ _ (⟨some 5, .box 36 _, _, _, _, _⟩ :: _) _ _); refine wpList_box_blk rfl 36 _ rfl (vArr rv) rfl ?_; intro w1 hV hL1 hs1) | (go_at_call 38; refine (HW.out _ hL1).mono ?_; rintro e w2 ⟨rfl, hb2⟩; have hL2 := more hL1 hb2; have hV2 := hV.next hb2))
    go_ret
    exact ⟨rfl, hL2⟩
  · have e1 : decide ((60 : Int) < (qs.length : Int)) = false := by simp; omega
    have e2 : (60 : Int) < (ps.length : Int) := by omega
    go_enter Tryz.func5, Tryz.ntmps5
    go_wp2_with (first | ((with_reducible show wpList _ _ _ (⟨some 5, .box 36 _, _, _, _, _⟩ :: _) _ _); refine wpList_box_blk rfl 36 _ rfl (vArr rv) rfl ?_; intro w1 hV hL1 hs1) | (go_at_call 38; refine (HW.out _ hL1).mono ?_; rintro e w2 ⟨rfl, hb2⟩; have hL2 := more hL1 hb2; have hV2 := hV.next hb2))
    go_ret
    exact ⟨rfl, hL2⟩
theorem ns_small (w : World) (A B : Option Addr) (qs : List ByteArray) (ps : List (Ky × Ds)) (ca cb : Nat) (rv : V) (hrn : rv.num < 2 ^ 64) (hT : Tabs w) (hA : NamesAt w.heap.size w A qs) (hB : ArgAt w.heap.size w B ps) (hnums : ∀ p ∈ ps, Nums p.2) (hW : ∀ W, Below w.heap.size w W → Calls Tryz.prog 38 #[] W fun e w' => e = .returned (.bool true) ∧ Below W.heap.size W w') (hq : qs.length ≤ 60) (hp : ps.length ≤ 60) : Calls Tryz.prog 5 #[.slice A qs.length ca, .slice B ps.length cb, .agg (vArr rv)] w fun e w' => e = .returned (.bool true) ∧ Below w.heap.size w w' := by
  have e1 : decide ((60 : Int) < (qs.length : Int)) = false := by simp; omega
  have e2 : decide ((60 : Int) < (ps.length : Int)) = false := by simp; omega
  have HW := Lib.hid hW
  have HT : Hid (∀ W, Below w.heap.size w W → Tabs W) := Lib.hid fun W h => hT.below h
  have HTN := Lib.hid hT.lt
  have HA := Lib.hid hA
  have HB := Lib.hid hB
  have HNU := Lib.hid hnums
  have HRN := Lib.hid hrn
  have HLQ := Lib.hid (And.intro hq hp)
  clear hW hA hB hnums hT hrn hq hp
  go_enter Tryz.func5, Tryz.ntmps5
  go_upto_region 5 with (first | ((with_reducible show wpList _ _ _ (⟨some 5, .box 36 _, _, _, _, _⟩ :: _) _ _); refine wpList_box_blk rfl 36 _ rfl (vArr rv) rfl ?_; intro w1 hV hL1 hs1) | (go_at_call 38; refine (HW.out _ hL1).mono ?_; rintro e w2 ⟨rfl, hb2⟩; have hL2 := more hL1 hb2; have hV2 := hV.next hb2))
  have hcv := hV2.cellV
  clear hs1
  have HC40 : Hid (∀ W, Below w.heap.size w W → Calls Tryz.prog 40 #[.agg (vArr rv)] W fun e w' => e = .returned (.int .i64 (if Dc.good uvalid rv then 0 else 5)) ∧ Below W.heap.size W w') := Lib.hid fun W h => check_any rv W (HT.out W h) HRN.out
  go_cut [48] (fun s wx => ∃ bad : Bool, s = .bool bad ∧ Below w.heap.size w wx ∧ Blk wx w.heap.size (vArr rv) 36 ∧ (bad = false → RvOk rv))
  case first =>
    cases hg : Dc.good uvalid rv with
    | false =>
      rw [hg] at HC40
      have H5 : Hid (∀ W, Below w.heap.size w W → Calls Tryz.prog 40 #[.agg (vArr rv)] W fun e w' => e = .returned (.int .i64 5) ∧ Below W.heap.size W w') := HC40
      clear HC40
      go_wp2_with (first | ((with_reducible show wpList _ _ _ (⟨some 40, .load 36 (.tmp 5), _, _, _, _⟩ :: _) _ _); refine wpList_load_blk rfl 36 _ rfl _ rfl hV2 Tryz.row36 Tryz.size36 ?_) | (go_at_call 40; refine (H5.out _ hL2).mono ?_; rintro e w3 ⟨rfl, hb3⟩; have hL3 := more hL2 hb3; have hV3 := hV2.next hb3) | (go_at_call 39; refine (num39 _ _).mono ?_; rintro e w' ⟨rfl, rfl⟩))
      go_meet
      exact ⟨true, rfl, hL3, hV3, fun h => by cases h⟩
    | true =>
      rw [hg] at HC40
      have H5 : Hid (∀ W, Below w.heap.size w W → Calls Tryz.prog 40 #[.agg (vArr rv)] W fun e w' => e = .returned (.int .i64 0) ∧ Below W.heap.size W w') := HC40
      clear HC40
      by_cases hk : rv.kind = 7
      · go_wp2_with (first | ((with_reducible show wpList _ _ _ (⟨some 40, .load 36 (.tmp 5), _, _, _, _⟩ :: _) _ _); refine wpList_load_blk rfl 36 _ rfl _ rfl hV2 Tryz.row36 Tryz.size36 ?_) | (go_at_call 40; refine (H5.out _ hL2).mono ?_; rintro e w3 ⟨rfl, hb3⟩; have hL3 := more hL2 hb3; have hV3 := hV2.next hb3; have hcv3 := hV3.cellV) | (go_at_call 39; refine (num39 _ _).mono ?_; rintro e w' ⟨rfl, rfl⟩))
        go_meet
        exact ⟨true, rfl, hL3, hV3, fun h => by cases h⟩
      · have hkb : (rv.kind == 7) = false := by simpa using hk
        go_wp2_with (first | ((with_reducible show wpList _ _ _ (⟨some 40, .load 36 (.tmp 5), _, _, _, _⟩ :: _) _ _); refine wpList_load_blk rfl 36 _ rfl _ rfl hV2 Tryz.row36 Tryz.size36 ?_) | (go_at_call 40; refine (H5.out _ hL2).mono ?_; rintro e w3 ⟨rfl, hb3⟩; have hL3 := more hL2 hb3; have hV3 := hV2.next hb3; have hcv3 := hV3.cellV) | (go_at_call 39; refine (num39 _ _).mono ?_; rintro e w' ⟨rfl, rfl⟩))
        go_meet
        exact ⟨false, rfl, hL3, hV3, fun _ => rvok_of HRN.out hg hk⟩
  case rest => as_aux_lemma =>
  obtain ⟨bad, rfl, hL3, hV3, hok⟩ := hcut
  clear hV hV2 hL1 hL2 hb2 hcv HC40
  go_upto_if 48 with fail
  go_cut [] (fun wx => ∃ r2, Below w.heap.size w wx ∧ Blk wx w.heap.size (vArr r2) 36 ∧ RvOk r2)
  case first =>
    cases bad with
    | true =>
      go_wp2_with (first | (go_at_call 11; refine (null11 _).mono ?_; rintro e w4 ⟨rfl, hb4⟩; have hL4 := more hL3 hb4; have hV4 := hV3.next hb4) | ((with_reducible show wpList _ _ _ (⟨_, .store 36 _ _, _, _, _, _⟩ :: _) _ _); refine wpList_store_blk rfl 36 _ _ rfl _ (vArr vN) _ 36 rfl rfl hV4 Tryz.size36 rfl (vArr_one _) ?_; intro w5 hB5 hO5))
      go_meet
      exact ⟨vN, hL4.trans (hO5.below _ hL4.size (by simp)), hB5, rvok_null⟩
    | false =>
      go_wp2_with fail
      go_meet
      exact ⟨rv, hL3, hV3, hok (by first | rfl | trivial)⟩
  case rest => as_aux_lemma =>
  obtain ⟨r2, hL4, hV4, hr2⟩ := hcut
  clear hV3 hL3 hok
  have HR2 := Lib.hid hr2
  clear hr2
  have HV4 := Lib.hid hV4
  clear hV4
  go_upto_region 11 with (first | (go_at_call 39; refine (num39 _ _).mono ?_; rintro e w' ⟨rfl, rfl⟩) | (go_at_call 8; refine (new_any 1 100000 _ (by decide) (by decide) (by decide)).mono ?_; rintro e w5 ⟨rfl, hH, hb5⟩; have hL5 := more hL4 hb5; have hV5 := HV4.out.next hb5) | (go_at_call 41; refine (new41 w.heap.size _ 1 100000 _ hL5.size hL4.size (HT.out _ hL5) HTN.out (by decide) hH A qs ca (HA.out.below hL5 |>.weak hL5.size) (by have := HLQ.out.1; omega)).mono ?_; rintro e w6 (⟨xb, g, xc, a, l0, ov, ob, tp, rfl, s6, hX6, hpm, hv0, hgl, k6⟩ | ⟨rfl, _, hb6⟩)))
  rotate_left
  · have hfd := field83 5
    have hH6 := hH.next hb6
    have hL6 := more hL5 hb6
    go_wp2_with (first | (go_at_call 39; refine (num39 _ _).mono ?_; rintro e w' ⟨rfl, rfl⟩) | (go_at_call 42; refine (len42 hH6).mono ?_; rintro e w' ⟨rfl, rfl⟩) | (go_at_call 37; refine (fault_any 5 _).mono ?_; rintro e w7 ⟨rfl, hb7⟩))
    go_ret
    exact ⟨rfl, more hL6 hb7⟩
  · as_aux_lemma =>
    obtain ⟨hb, hhb⟩ : ∃ b, wc.heap.size = b := ⟨_, rfl⟩
    rw [hhb] at s6 ⊢
    clear hhb
    obtain ⟨m, hm⟩ : ∃ m, ps.length = m := ⟨_, rfl⟩
    have hpm60 := HLQ.out.2
    have hqq60 := HLQ.out.1
    rw [hm] at hpm60 e2 ⊢
    have HMM := Lib.hid hm
    have HQP := Lib.hid hpm
    have HOKN : Hid (∀ q ∈ l0.map Ex.name, okN q) := Lib.hid (fun q hq => by obtain ⟨x, hx, rfl⟩ := List.mem_map.1 hq; exact (hv0 x hx).2)
    obtain ⟨n, hn⟩ : ∃ n, qs.length = n := ⟨_, rfl⟩
    rw [hn] at hqq60 e1 ⊢
    have HNN := Lib.hid hn
    obtain ⟨ns, hns⟩ : ∃ ns, l0.map Ex.name = ns := ⟨_, rfl⟩
    rw [hns] at HQP HOKN
    have HI0 := Lib.hid (And.intro s6 (And.intro hX6 (And.intro hv0 (And.intro hgl (And.intro k6 hns)))))
    clear hm hn hpm hns s6 hX6 hv0 hgl k6
    go_upto_region 17 with (first | (go_at_call 39; refine (num39 _ _).mono ?_; rintro e w' ⟨rfl, rfl⟩) | ((with_reducible show wpList _ _ _ (⟨_, .makeMap 90 none, _, _, _, _⟩ :: _) _ _); refine wpList_makeMap_s rfl rfl ?_; intro w7 mb hM hmb hb7; replace hmb := Lib.hid hmb))
    have HST : Hid (∃ l M F, RdInv w.heap.size w w7 hb ov ob xb g xc a ns w.heap.size r2 mb l M F ∧ F = 100000) := Lib.hid (by
      obtain ⟨s6, hX6, hv0, hgl, k6, hns⟩ := HI0.out
      have h56 := hL5.trans k6.below
      refine ⟨l0, [], 100000, ⟨⟨tp, _, s6.below hb7, tagMod, hX6.next hb7⟩, h56.trans (hb7.mono h56.size), (hV5.keeps k6 rfl).next hb7, hM, hns, ⟨fun x hx => ?_, fun x hx _ => rfl, fun x hx h => ?_⟩, ⟨by rw [hmb.out]; exact h56.size, Nat.le_trans hL5.size hgl⟩, Nat.le_refl _⟩, rfl⟩
      · rw [(hv0 x hx).1]; decide
      · rw [(hv0 x hx).1] at h; exact absurd rfl h)
    clear hM hmb hb7 HI0 hV5 hL5 hb5 hH HV4 hL4
    go_loopg [12] m (fun fu s12 wr => ∃ (i : Nat) (l : List Ex) (M : List (ByteArray × V)) (F : Int), s12 = .int .i64 i ∧ i + fu = m ∧ RdInv w.heap.size w wr hb ov ob xb g xc a ns w.heap.size r2 mb l M F ∧ 100000 - 24 * (i : Int) ≤ F ∧ F ≤ 100000)
    case atStart =>
      obtain ⟨l, M, F, hI, hF⟩ := HST.out
      exact ⟨0, l, M, F, rfl, by omega, hI, by omega, by omega⟩
    case round =>
      obtain ⟨i, l, M, F, rfl, hi, hI, hF1, hF2⟩ := hrel
      by_cases hlt : i < m
      · as_aux_lemma =>
        obtain ⟨b, off, rfl, HRF⟩ := HB.out.fix (i := i) (by rw [HMM.out]; exact hlt)
        obtain ⟨p, hp⟩ : ∃ p, ps[i]'(by rw [HMM.out]; exact hlt) = p := ⟨_, rfl⟩
        have HND : Hid (Nums p.2) := Lib.hid (by rw [← hp]; exact HNU.out _ (List.getElem_mem _))
        rw [hp] at HRF
        clear hp
        obtain ⟨k, d⟩ := p
        simp only at HND
        replace HRF := Lib.hid HRF
        obtain ⟨fu, rfl⟩ : ∃ fu, gk = fu + 1 := ⟨gk - 1, by omega⟩
        obtain ⟨i2, hi2⟩ : ∃ i2, i + 1 = i2 := ⟨_, rfl⟩
        have e3 : (i : Int) + 1 = (i2 : Int) := by omega
        have e4 := wrap_nat i2 (by omega)
        have e5 : (0 : Int) ≤ (i : Int) := by omega
        have e6 : (i : Int) < (m : Int) := by omega
        have HF := Lib.hid (show i2 + fu = m ∧ i + 1 = i2 ∧ 100000 - 24 * (i : Int) ≤ F ∧ F ≤ 100000 ∧ i < 60 from ⟨by omega, hi2, hF1, hF2, by omega⟩)
        clear hi hi2 hF1 hF2 hlt
        go_upto_region 21 with (first | ((with_reducible show wpList _ _ _ (⟨_, .load 40 (.tmp 95), _, _, _, _⟩ :: _) _ _); refine wpList_load_mid rfl 40 _ rfl b (off + i * 20) rfl [.string k.str, .int .i64 k.sym] _ (arg_key (HRF.out _ hI.bel)) Tryz.underlying40 rfl Tryz.size40 ?_) | ((with_reducible show wpList _ _ _ (⟨some 13, .alloc 40, _, _, _, _⟩ :: _) _ _); refine wpList_alloc_blk rfl 40 rfl _ zero40' ?_; intro wA hA hLA hsA) | ((with_reducible show wpList _ _ _ (⟨_, .store 40 _ _, _, _, _, _⟩ :: _) _ _); refine wpList_store_blk rfl 40 _ _ rfl _ (kArr k) _ 40 rfl rfl hA Tryz.size40 rfl (kArr_one k) ?_; intro wB hK hOB; have hAB : Below wr.heap.size wr wB := hLA.trans (hOB.below _ hLA.size (by simp)); have hIB := hI.next hAB) | ((with_reducible show wpList _ _ _ (⟨_, .load 36 (.tmp 101), _, _, _, _⟩ :: _) _ _); refine wpList_load_mid rfl 36 _ rfl b (off + i * 20 + 2) rfl [.int .i64 d.val.kind, .bool d.val.bool, .float .f64 d.val.num, .string d.val.str, .int .i64 d.val.id] _ (arg_val (HRF.out _ hIB.bel)) Tryz.underlying36 rfl Tryz.size36 ?_) | ((with_reducible show wpList _ _ _ (⟨some 14, .alloc 36, _, _, _, _⟩ :: _) _ _); refine wpList_alloc_blk rfl 36 rfl _ zero36 ?_; intro wA2 hA2 hLA2 hsA2) | ((with_reducible show wpList _ _ _ (⟨_, .store 36 _ _, _, _, _, _⟩ :: _) _ _); refine wpList_store_blk rfl 36 _ _ rfl _ (vArr d.val) _ 36 rfl rfl hA2 Tryz.size36 rfl (vArr_one _) ?_; intro wC hVX hOC; have hBD : Below wB.heap.size wB wC := hLA2.trans (hOC.below _ hLA2.size (by simp)); have hIC := hIB.next hBD))
        have hKX := hK.next hBD
        clear hK hA hA2 hLA hsA hsA2 hOB hOC hLA2 hI
        obtain ⟨b13, h13⟩ : ∃ x, wr.heap.size = x := ⟨_, rfl⟩
        obtain ⟨b14, h14⟩ : ∃ x, wB.heap.size = x := ⟨_, rfl⟩
        rw [h13] at hKX ⊢
        rw [h14] at hVX ⊢
        clear h13 h14 hAB hBD
        by_cases hgk : kgood k = true
        · have HGK := Lib.hid hgk
          have HC13 : Hid (∀ W, Tabs W → Calls Tryz.prog 13 #[.agg (kArr k)] W fun e w' => e = .returned (.int .i64 0) ∧ Below W.heap.size W w') := Lib.hid fun W h => by
            have := keycheck_any k W h
            rw [hgk, if_pos rfl] at this
            exact this
          clear hgk
          go_upto_region 22 with (first | ((with_reducible show wpList _ _ _ (⟨some 103, .load 40 (.tmp 13), _, _, _, _⟩ :: _) _ _); refine wpList_load_blk rfl 40 _ rfl _ rfl hKX Tryz.row40 Tryz.size40 ?_) | (go_at_call 13; refine (HC13.out _ hIC.at_.tabs).mono ?_; rintro e wE ⟨rfl, hbE⟩; have hIE := hIC.next hbE; have hKE := hKX.next hbE) | (go_at_call 39; refine (num39 _ _).mono ?_; rintro e w' ⟨rfl, rfl⟩))
          have HIE := Lib.hid hIE
          have HKV := Lib.hid (And.intro hKE (hVX.next hbE))
          clear hIE hKE hVX hbE hKX hIC
          go_cut [116] (fun s wx => ∃ B1 : Bool, s = .bool B1 ∧ (B1 = true → Dc.good uvalid d.val = true ∧ lostV d.val = false) ∧ RdInv w.heap.size w wx hb ov ob xb g xc a ns w.heap.size r2 mb l M F ∧ Blk wx b13 (kArr k) 40 ∧ Blk wx b14 (vArr d.val) 36)
          case first => as_aux_lemma =>
            obtain ⟨n9, hn9, HC43⟩ := ns_check d.val HND.out.val
            have HN9 := Lib.hid hn9
            replace HC43 := Lib.hid HC43
            clear hn9
            have v0 : IntKind.i64.wrap 0 = 0 := by decide
            have v1 : IntKind.i64.wrap 1 = 1 := by decide
            have hIE := HIE.out
            by_cases hpar : i % 2 = 0
            · have a6 : Int.tmod (i : Int) 2 = 0 := by rw [Int.tmod_eq_emod_of_nonneg e5]; omega
              clear hpar
              by_cases hz : n9 = 0
              · subst hz
                go_wp2_with (first | ((with_reducible show wpList _ _ _ (⟨some 112, .load 36 (.tmp 14), _, _, _, _⟩ :: _) _ _); refine wpList_load_blkW (by rfl) 36 _ rfl _ rfl HKV.out.2 Tryz.row36 Tryz.size36 ?_) | (go_at_call 43; refine (HC43.out _ _ _ _ _ _ _ _ _ _ _ hIE.at_).mono ?_; rintro e wG ⟨rfl, hbG⟩; have hI43 := hIE.next hbG; have hK43 := HKV.out.1.next hbG; have hV43 := HKV.out.2.next hbG) | (go_at_call 39; refine (num39 _ _).mono ?_; rintro e w' ⟨rfl, rfl⟩))
                go_meet
                exact ⟨true, rfl, fun _ => HN9.out (by first | rfl | trivial), hI43, hK43, hV43⟩
              · have hzb : (n9 == 0) = false := by simpa using hz
                go_wp2_with (first | ((with_reducible show wpList _ _ _ (⟨some 112, .load 36 (.tmp 14), _, _, _, _⟩ :: _) _ _); refine wpList_load_blkW (by rfl) 36 _ rfl _ rfl HKV.out.2 Tryz.row36 Tryz.size36 ?_) | (go_at_call 43; refine (HC43.out _ _ _ _ _ _ _ _ _ _ _ hIE.at_).mono ?_; rintro e wG ⟨rfl, hbG⟩; have hI43 := hIE.next hbG; have hK43 := HKV.out.1.next hbG; have hV43 := HKV.out.2.next hbG) | (go_at_call 39; refine (num39 _ _).mono ?_; rintro e w' ⟨rfl, rfl⟩))
                go_meet
                exact ⟨false, rfl, (fun h => by cases h), hI43, hK43, hV43⟩
            · have a6 : Int.tmod (i : Int) 2 = 1 := by rw [Int.tmod_eq_emod_of_nonneg e5]; omega
              clear hpar
              go_wp2_with fail
              go_meet
              exact ⟨false, rfl, (fun h => by cases h), hIE, HKV.out.1, HKV.out.2⟩
          case rest => as_aux_lemma =>
          obtain ⟨B1, rfl, hB1, hIF, hKF, hVF⟩ := hcut
          go_upto_if 116 with fail
          go_cut [] (fun wx => ∃ (l2 : List Ex) (M2 : List (ByteArray × V)), RdInv w.heap.size w wx hb ov ob xb g xc a ns w.heap.size r2 mb l2 M2 F ∧ Blk wx b13 (kArr k) 40 ∧ Blk wx b14 (vArr d.val) 36)
          case first => as_aux_lemma =>
            cases B1 with
            | false =>
              go_wp2_with fail
              go_meet
              exact ⟨l, M, hIF, hKF, hVF⟩
            | true =>
              obtain ⟨hg, hl⟩ := hB1 (by first | rfl | trivial)
              have hq := kgood_str HGK.out
              have hnv := HND.out.val
              have hkc := hKF.cellK
              obtain ⟨tp, L, s, hL, hX⟩ := hIF.at_
              cases hI : xIdx l k.str with
              | none =>
                have hmem := (idx_none_iff k.str).1 hI
                rw [hIF.nm] at hmem
                have hhas : hasB qs k.str = false := hasB_of HQP.out k.str (by simpa using hmem)
                have HC44 := Lib.hid (bind_none s hX k.str hq hI d.val hnv hg hl)
                have HC45 : Hid (∀ W, Below w.heap.size w W → Calls Tryz.prog 45 #[.slice A n ca, .string k.str] W fun e w' => HasPost false W e w') := Lib.hid fun W h => by
                  have := has45 (n0 := w.heap.size) (w := W) (qs := qs) ca k.str (HA.out.below h) (by rw [HNN.out]; omega)
                  rw [hhas, HNN.out] at this
                  exact this
                have HII := Lib.hid hIF
                clear hmem hhas hg hl hB1 hI hX hL s
                go_wp2_with (first | ((with_reducible show wpList _ _ _ (⟨some 120, .load 36 (.tmp 14), _, _, _, _⟩ :: _) _ _); refine wpList_load_blk rfl 36 _ rfl _ rfl hVF Tryz.row36 Tryz.size36 ?_) | (go_at_call 44; refine HC44.out.mono ?_; rintro e wq ⟨rfl, hbq⟩; have hIq := HII.out.next hbq; have hKq := hKF.next hbq; have hVq := hVF.next hbq; have hkcq := hKq.cellK) | (go_at_call 45; refine (HC45.out _ hIq.bel).mono ?_; rintro e w' ⟨i9, rfl, rfl⟩) | (go_at_call 39; refine (num39 _ _).mono ?_; rintro e w' ⟨rfl, rfl⟩))
                go_meet
                exact ⟨l, M, hIq, hKq, hVq⟩
              | some j =>
                obtain ⟨x, hx, hxn⟩ := xIdx_lt hI
                have hmem : k.str ∈ ns := by rw [← hIF.nm, ← hxn]; exact List.mem_map.2 ⟨x, List.mem_of_getElem? hx, rfl⟩
                have hhas : hasB qs k.str = true := hasB_of HQP.out k.str (by simpa using hmem)
                have HC44 := Lib.hid (bind_some s hX k.str hq hI hx d.val hnv hg hl)
                have HC45 : Hid (∀ W, Below w.heap.size w W → Calls Tryz.prog 45 #[.slice A n ca, .string k.str] W fun e w' => HasPost true W e w') := Lib.hid fun W h => by
                  have := has45 (n0 := w.heap.size) (w := W) (qs := qs) ca k.str (HA.out.below h) (by rw [HNN.out]; omega)
                  rw [hhas, HNN.out] at this
                  exact this
                have HII := Lib.hid (And.intro hIF (And.intro s (And.intro hL (And.intro hX (And.intro hx (And.intro hxn hg))))))
                clear hmem hhas hg hl hB1 hI hX hL s hx hxn
                go_wp2_with (first | ((with_reducible show wpList _ _ _ (⟨some 120, .load 36 (.tmp 14), _, _, _, _⟩ :: _) _ _); refine wpList_load_blk rfl 36 _ rfl _ rfl hVF Tryz.row36 Tryz.size36 ?_) | (go_at_call 44; refine HC44.out.mono ?_; rintro e wq ⟨rfl, hXq, hOq, Cq, Cq2, hCq, hCq2⟩; obtain ⟨hAq, hBq, hRq, hMq⟩ := HII.out.1.bind HII.out.2.1 HII.out.2.2.1 hXq hOq hCq; have hKq := hKF.only hOq (by simpa using hKF.ne hCq (by decide)); have hVq := hVF.only hOq (by simpa using hVF.ne hCq (by decide)); have hkcq := hKq.cellK) | (go_at_call 45; refine (HC45.out _ hBq).mono ?_; rintro e w' ⟨i9, rfl, rfl⟩) | (go_at_call 39; refine (num39 _ _).mono ?_; rintro e w' ⟨rfl, rfl⟩) | ((with_reducible show wpList _ _ _ (⟨some 138, .load 36 (.tmp 14), _, _, _, _⟩ :: _) _ _); refine wpList_load_blk rfl 36 _ rfl _ rfl hVq Tryz.row36 Tryz.size36 ?_) | ((with_reducible show wpList _ _ _ (⟨_, .mapUpdate 90 _ _ _, _, _, _, _⟩ :: _) _ _); refine wpList_update_s rfl _ _ _ rfl hMq k.str d.val rfl rfl rfl ?_; intro wz hMz hOz))
                go_meet
                obtain ⟨hIF, s, hL, hX, hx, hxn, hg⟩ := HII.out
                have hlo := hIF.lo
                have hnn := Nat.le_trans hIF.n hBq.size
                refine ⟨_, _, ⟨hAq.map hMq hOz hlo.1, hBq.trans (hOz.below _ hnn (by simpa using hlo.1)), hRq.only hOz (by simpa using fun e => hMq.ne hRq e.symm), hMz, ?_, ?_, hlo, hIF.n⟩, hKq.only hOz (by simpa using fun e => hMq.ne hKq e.symm), hVq.only hOz (by simpa using fun e => hMq.ne hVq e.symm)⟩
                · rw [names_set hx]; exact hIF.nm
                · rw [← hxn]; exact hIF.lk.bind hX.strict hx hnv (good_kind hg)
          case rest => as_aux_lemma =>
          clear hIF hKF hVF hB1 HIE HKV
          obtain ⟨l2, M2, hIG, hKG, hVG⟩ := hcut
          have hFF : 100000 - 24 * (i : Int) ≤ F ∧ F ≤ 100000 ∧ i < 60 := HF.out.2.2
          have hRG := arg_desc (HRF.out _ hIG.bel)
          go_upto_region 29 with fail
          refine Ord.region (fun W => Blk W b13 (kArr k) 40 ∧ W.rangeAt b (off + i * 20 + 2) [.int .i64 d.val.kind, .bool d.val.bool, .float .f64 d.val.num, .string d.val.str, .int .i64 d.val.id, .int .i64 d.get.kind, .bool d.get.bool, .float .f64 d.get.num, .string d.get.str, .int .i64 d.get.id, .int .i64 d.set.kind, .bool d.set.bool, .float .f64 d.set.num, .string d.set.str, .int .i64 d.set.id, .int .i64 d.w, .int .i64 d.e, .int .i64 d.c]) [] (by kernel_rfl) ⟨hKG, hRG⟩ ?_
          intro hS
          refine Ord.tp 0 139 rfl rfl ?_
          refine Ord.tk 1 140 rfl rfl (yieldsIf_load_mid (by rfl) 40 _ rfl b13 0 rfl [.string k.str, .int .i64 k.sym] _ (fun W hSW => range_all hSW.1) Tryz.underlying40 rfl Tryz.size40) ?_
          refine Ord.tp 2 141 rfl rfl ?_
          refine Ord.tp 3 142 rfl rfl ?_
          refine Ord.tp 4 143 rfl rfl ?_
          refine Ord.tp 5 144 rfl rfl ?_
          refine Ord.tk 6 145 rfl rfl (yieldsIf_load_mid (by rfl) 43 _ rfl b (off + i * 20 + 2) rfl [.int .i64 d.val.kind, .bool d.val.bool, .float .f64 d.val.num, .string d.val.str, .int .i64 d.val.id, .int .i64 d.get.kind, .bool d.get.bool, .float .f64 d.get.num, .string d.get.str, .int .i64 d.get.id, .int .i64 d.set.kind, .bool d.set.bool, .float .f64 d.set.num, .string d.set.str, .int .i64 d.set.id, .int .i64 d.w, .int .i64 d.e, .int .i64 d.c] _ (fun W hSW => hSW.2) Tryz.underlying43 rfl Tryz.size43) ?_
          refine Ord.step (i := 7) rfl (by kernel_rfl) (by rfl) ?_
          intro K HK
          have hId := hIG.next (Below.refl _ _).drew
          go_simp
          go_at_call 14
          refine (rd_def hId.at_ ⟨by omega, by omega⟩ hId.lk.num k d HND.out).mono ?_
          rintro e w29 ⟨v29, F1, rfl, ha1, k1, hf1, hf1'⟩
          refine HK.out _ _ ?_
          clear HK
          refine ⟨Ord.np (by kernel_rfl), ?_⟩
          try simp only [List.setIfInBounds_toArray, List.set_cons_zero, List.set_cons_succ]
          refine Ord.done (by kernel_rfl) ?_ _
          clear hS
          have hI30 := (hIG.next (Below.refl _ _).drew).rd ha1 k1
          have hK30 := Blk.keeps (show Blk (World.drew _) _ _ _ from hKG) k1 rfl
          have hV30 := Blk.keeps (show Blk (World.drew _) _ _ _ from hVG) k1 rfl
          clear hIG hKG hVG ha1 k1 hRG
          go_upto_region 30 with fail
          refine Ord.region (fun W => Blk W b13 (kArr k) 40 ∧ Blk W b14 (vArr d.val) 36) [] (by kernel_rfl) ⟨hK30, hV30⟩ ?_
          intro hS
          refine Ord.tp 0 147 rfl rfl ?_
          refine Ord.tk 1 148 rfl rfl (yieldsIf_load_mid (by rfl) 40 _ rfl b13 0 rfl [.string k.str, .int .i64 k.sym] _ (fun W hSW => range_all hSW.1) Tryz.underlying40 rfl Tryz.size40) ?_
          refine Ord.tk 2 149 rfl rfl (yieldsIf_load_mid (by rfl) 36 _ rfl b14 0 rfl [.int .i64 d.val.kind, .bool d.val.bool, .float .f64 d.val.num, .string d.val.str, .int .i64 d.val.id] _ (fun W hSW => range_all hSW.2) Tryz.underlying36 rfl Tryz.size36) ?_
          refine Ord.step (i := 3) rfl (by kernel_rfl) (by rfl) ?_
          intro K HK
          have hId := hI30.next (Below.refl _ _).drew
          go_simp
          go_at_call 16
          refine (ref16 _ hId.at_.tabs).mono ?_
          rintro e w30 ⟨rfl, hb30⟩
          have hI16 := hId.next hb30
          have hK16 := Blk.next (show Blk (World.drew _) _ _ _ from hK30) hb30
          have hV16 := Blk.next (show Blk (World.drew _) _ _ _ from hV30) hb30
          refine HK.out _ _ ?_
          clear HK
          refine Ord.kp ?_ ?_
          · exact ⟨hK16, hV16⟩
          clear hS
          intro hS
          try simp only [List.setIfInBounds_toArray, List.set_cons_zero, List.set_cons_succ]
          refine Ord.step (i := 4) rfl (by kernel_rfl) (by rfl) ?_
          intro K HK
          go_simp
          go_at_call 15
          refine (rd_set hI16.at_ ⟨by omega, by omega⟩ k HGK.out d.val ⟨7, false, 0, ByteArray.empty, 1⟩ HND.out.val (by decide)).mono ?_
          rintro e w31 ⟨v31, F2, rfl, ha2, k2, hf2, hf2'⟩
          refine HK.out _ _ ?_
          clear HK
          refine ⟨Ord.np (by kernel_rfl), ?_⟩
          try simp only [List.setIfInBounds_toArray, List.set_cons_zero, List.set_cons_succ]
          refine Ord.done (by kernel_rfl) ?_ _
          clear hS
          have hI31 := hI16.rd ha2 k2
          have hK31 := hK16.keeps k2 rfl
          clear hI30 hK30 hV30 hI16 hK16 hV16 ha2 k2
          go_wp2_with (first | ((with_reducible show wpList _ _ _ (⟨some 153, .load 40 (.tmp 13), _, _, _, _⟩ :: _) _ _); refine wpList_load_blk rfl 40 _ rfl _ rfl hK31 Tryz.row40 Tryz.size40 ?_) | (go_at_call 17; refine (rd_del hI31.at_ ⟨by omega, by omega⟩ k HGK.out).mono ?_; rintro e w31 ⟨v31, F3, rfl, ha3, k3, hf3, hf3'⟩; have hI32 := hI31.rd ha3 k3) | (go_at_call 11; refine (null11 _).mono ?_; rintro e w32 ⟨rfl, hb32⟩; have hI32b := hI32.next hb32) | (go_at_call 46; refine (rd_proto hI32b.at_ ⟨by omega, by omega⟩).mono ?_; rintro e w33 ⟨v33, F4, rfl, ha4, k4, hf4, hf4'⟩; have hI33 := hI32b.rd ha4 k4) | (go_at_call 18; refine (rd_prev hI33.at_ ⟨by omega, by omega⟩).mono ?_; rintro e w34 ⟨v34, F5, rfl, ha5, k5, hf5, hf5'⟩; have hI34 := hI33.rd ha5 k5))
          go_roundg fu
          case measure => omega
          case rel =>
            obtain ⟨h1, h2, h3, h4, h5⟩ := HF.out
            exact ⟨i2, l2, M2, F5, by go_num, h1, hI34, by omega, by omega⟩
        · have hgf : kgood k = false := by simpa using hgk
          have HC13 : Hid (∀ W, Tabs W → Calls Tryz.prog 13 #[.agg (kArr k)] W fun e w' => e = .returned (.int .i64 5) ∧ Below W.heap.size W w') := Lib.hid fun W h => by
            have := keycheck_any k W h
            rw [hgf, if_neg (by simp)] at this
            exact this
          clear hgk hgf
          go_wp2_with (first | ((with_reducible show wpList _ _ _ (⟨some 103, .load 40 (.tmp 13), _, _, _, _⟩ :: _) _ _); refine wpList_load_blk rfl 40 _ rfl _ rfl hKX Tryz.row40 Tryz.size40 ?_) | (go_at_call 13; refine (HC13.out _ hIC.at_.tabs).mono ?_; rintro e wE ⟨rfl, hbE⟩; have hIE := hIC.next hbE; have hKE := hKX.next hbE) | (go_at_call 39; refine (num39 _ _).mono ?_; rintro e w' ⟨rfl, rfl⟩))
          go_roundg fu
          case measure => omega
          case rel =>
            obtain ⟨h1, h2, h3, h4, h5⟩ := HF.out
            exact ⟨i2, l, M, F, by go_num, h1, hIE, by omega, h4⟩
      · as_aux_lemma =>
        obtain rfl : i = m := by omega
        have hlti : ¬ (i : Int) < (i : Int) := by omega
        have hFF : 98000 ≤ F ∧ F ≤ 100000 := by omega
        have HOK : Hid (∀ x ∈ l, okN x.name) := Lib.hid (fun x hx => HOKN.out _ (by rw [← hI.nm]; exact List.mem_map.2 ⟨x, hx, rfl⟩))
        have hll : l.length = n := by
          rw [← HNN.out, ← HQP.out.length_eq, ← hI.nm, List.length_map]
        have HLL := Lib.hid hll
        clear hll hi hF1 hF2 hlt HST
        go_upto_region 35 with (first | (go_at_call 20; refine (rd_keys hI.at_ ⟨by omega, by omega⟩).mono ?_; rintro e w20 ⟨vk, rfl, hk, ha, kk⟩; have hJ := hI.rd ha kk; obtain ⟨AK, cK, hvk, hAK⟩ := hk.form; subst hvk))
        obtain ⟨N1, hN1⟩ : ∃ N1, (lawKeys l).length = N1 := ⟨_, rfl⟩
        rw [hN1] at hAK hk ⊢
        have hN2 : N1 = n + 1 := by rw [← hN1, lawKeys_length, HLL.out]
        have HN1 := Lib.hid hN2
        have e7 : ¬ (N1 : Int) < (n : Int) := by omega
        have HAK := Lib.hid hAK
        have HJ0 := Lib.hid (And.intro hJ hk)
        have hN60 : N1 ≤ 61 := by omega
        clear hN1 hN2 hAK hI ha kk
        go_wp2_with fail
        go_loopg [20] N1 (fun fu s20 wr => ∃ (i : Nat) (F : Int), s20 = .int .i64 i ∧ i + fu = N1 ∧ RdInv w.heap.size w wr hb ov ob xb g xc a ns w.heap.size r2 mb l M F ∧ KeysAt wr 0 (.slice AK N1 cK) (lawKeys l) ∧ 97000 - 8 * (i : Int) ≤ F ∧ F ≤ 100000)
        case atStart => exact ⟨0, _, rfl, by omega, HJ0.out.1, HJ0.out.2, by omega, by omega⟩
        case round =>
          clear hJ hk hFF HJ0
          obtain ⟨i, F, rfl, hi, hJ, hkk, hF1, hF2⟩ := hrel
          by_cases hlt : i < N1
          · obtain ⟨fu, rfl⟩ : ∃ fu, gk = fu + 1 := ⟨gk - 1, by omega⟩
            obtain ⟨i2, hi2⟩ : ∃ i2, i + 1 = i2 := ⟨_, rfl⟩
            have e3 : (i : Int) + 1 = (i2 : Int) := by omega
            have e4 := wrap_nat i2 (by omega)
            have e5 : (0 : Int) ≤ (i : Int) := by omega
            have e6 : (i : Int) < (N1 : Int) := by omega
            have HF3 := Lib.hid (show 97000 - 8 * (i : Int) ≤ F ∧ F ≤ 100000 ∧ i ≤ 61 ∧ i + 1 = i2 from ⟨hF1, hF2, by omega, hi2⟩)
            have HI3 := Lib.hid (show i2 + fu = N1 by omega)
            clear hF1 hF2
            by_cases hin : i < n
            · as_aux_lemma =>
              obtain ⟨x, hx⟩ : ∃ x, l[i]? = some x := ⟨_, List.getElem?_eq_getElem (by rw [HLL.out]; exact hin)⟩
              have hkx := lawKeys_lt hx
              obtain ⟨g2, rfl, _⟩ := HAK.out wr i _ hkx hkk
              have HRW : Hid (∀ W, KeysAt W 0 (.slice (some ⟨g2, 0, none⟩) N1 cK) (lawKeys l) → W.rangeAt g2 (i * 2) [.string x.name, .int .i64 0]) := Lib.hid fun W h => by
                obtain ⟨g3, e, h3⟩ := HAK.out W i _ hkx h
                cases e; exact h3
              have e8 : (i : Int) < (n : Int) := by omega
              have HXM := Lib.hid (List.mem_of_getElem? hx)
              have hhas : hasB qs x.name = true := hasB_of HQP.out x.name (by rw [← hJ.nm]; simpa using ⟨x, HXM.out, rfl⟩)
              have HC45 : Hid (∀ W, Below w.heap.size w W → Calls Tryz.prog 45 #[.slice A n ca, .string x.name] W fun e w' => HasPost true W e w') := Lib.hid fun W h => by
                have := has45 (n0 := w.heap.size) (w := W) (qs := qs) ca x.name (HA.out.below h) (by rw [HNN.out]; omega)
                rw [hhas, HNN.out] at this
                exact this
              have HXI := Lib.hid (And.intro hx (And.intro hi2 hlt))
              clear hhas hx hi2 hi hlt
              go_upto_region 44 with (first | ((with_reducible show wpList _ _ _ (⟨_, .load 40 (.tmp 184), _, _, _, _⟩ :: _) _ _); refine wpList_load_mid rfl 40 _ rfl g2 (i * 2) rfl [.string x.name, .int .i64 0] _ (HRW.out _ hkk) Tryz.underlying40 rfl Tryz.size40 ?_) | (go_at_call 47; refine (rd_has hJ.at_ ⟨by have := HF3.out; omega, by have := HF3.out; omega⟩ hkx HOK.out).mono ?_; rintro e w40 ⟨rfl, ha4, k4⟩; have hJ4 := hJ.rd ha4 k4; have hkk4 := hkk.keeps k4; have hcq : w40.cell? ⟨g2, i * 2, none⟩ = some (.string x.name) := HRW.out _ hkk4 0 _ rfl; have hcs : w40.cell? ⟨g2, i * 2 + 1, none⟩ = some (.int .i64 0) := HRW.out _ hkk4 1 _ rfl) | (go_at_call 45; refine (HC45.out _ hJ4.bel).mono ?_; rintro e w' ⟨i9, rfl, rfl⟩))
              go_cut [237] (fun s wx => s = .bool (decide (0 < i)) ∧ w40 = wx)
              case first =>
                by_cases hi0 : i = 0
                · subst hi0
                  go_wp2_with fail
                  go_meet
                  exact ⟨rfl, rfl⟩
                · have e9 : (0 : Int) < (i : Int) := by omega
                  have e10 : 0 < i := by omega
                  have e11 : decide (0 < i) = true := by simpa using e10
                  go_wp2_with fail
                  go_meet
                  exact ⟨by simp [e10], rfl⟩
              case rest => as_aux_lemma =>
              obtain ⟨rfl, rfl⟩ := hcut
              go_upto_if 237 with fail
              go_cut [] (fun wx => RdInv w.heap.size w wx hb ov ob xb g xc a ns w.heap.size r2 mb l M (F - 1) ∧ KeysAt wx 0 (.slice (some ⟨g2, 0, none⟩) N1 cK) (lawKeys l))
              case first => as_aux_lemma =>
                by_cases hi0 : i = 0
                · have e11 : decide (0 < i) = false := by simp; omega
                  go_wp2_with fail
                  go_meet
                  exact ⟨hJ4, hkk4⟩
                · have e11 : decide (0 < i) = true := by simp; omega
                  obtain ⟨i0, hi0e⟩ : ∃ i0, i0 + 1 = i := ⟨i - 1, by omega⟩
                  obtain ⟨y, hy⟩ : ∃ y, l[i0]? = some y := ⟨_, List.getElem?_eq_getElem (by rw [HLL.out]; omega)⟩
                  have hlt9 := hJ4.at_.strict i0 i y x (by omega) hy HXI.out.1
                  unfold cmpX at hlt9
                  obtain ⟨c9, hc9⟩ : ∃ c9, cmpU (unitsL y.name) (unitsL x.name) = c9 := ⟨_, rfl⟩
                  rw [hc9] at hlt9
                  have HC48 : Hid (∀ W, Tabs W → Calls Tryz.prog 48 #[.string y.name, .string x.name] W fun e w' => e = .returned (.tuple #[.int .i64 c9, .int .i64 0]) ∧ Below W.heap.size W w') := Lib.hid fun W h => by
                    refine (cmp48 y.name x.name W h y.le x.le y.ok x.ok).mono ?_
                    rw [hc9]
                    exact fun e w' h => ⟨h.1, h.2.below⟩
                  have hcp : w40.cell? ⟨g2, i0 * 2, none⟩ = some (.string y.name) := by
                    obtain ⟨g3, e, h3⟩ := HAK.out w40 i0 _ (lawKeys_lt hy) hkk4
                    cases e; exact h3 0 _ rfl
                  have hcq5 := hcq
                  have hJ5 := hJ4
                  have e0 : (i : Int) - 1 = (i0 : Int) := by omega
                  have e00 := wrap_nat i0 (by omega)
                  have e33 : (0 : Int) ≤ (i0 : Int) := by omega
                  have e44 : (i0 : Int) < (N1 : Int) := by omega
                  have hc10 : decide ((0 : Int) ≤ c9) = false := by simp; omega
                  have hc11 : ¬ (0 : Int) ≤ c9 := by omega
                  clear hc9 hlt9 hi0 hi0e
                  go_upto_region 45 with fail
                  refine Ord.region (fun W => W.cell? ⟨g2, i0 * 2, none⟩ = some (.string y.name) ∧ W.cell? ⟨g2, i * 2, none⟩ = some (.string x.name)) [12, 13, 14, 15, 16] (by kernel_rfl) ⟨hcp, hcq5⟩ ?_
                  intro hS
                  refine Ord.tp 0 239 rfl rfl ?_
                  refine Ord.tp 1 240 rfl rfl ?_
                  refine Ord.tp 2 241 rfl rfl ?_
                  refine Ord.tp 3 242 rfl rfl ?_
                  refine Ord.tp 4 243 rfl rfl ?_
                  refine Ord.tp 5 244 rfl rfl ?_
                  refine Ord.tp 6 245 rfl rfl ?_
                  refine Ord.tp 7 246 rfl rfl ?_
                  refine Ord.tp 8 247 rfl rfl ?_
                  refine Ord.tp 9 248 rfl rfl ?_
                  refine Ord.tp 10 249 rfl rfl ?_
                  refine Ord.step (i := 11) rfl (by kernel_rfl) (by rfl) ?_
                  intro K HK
                  go_simp
                  go_at_call 48
                  refine (HC48.out _ (hJ5.next (Below.refl _ _).drew).at_.tabs).mono ?_
                  rintro e w48 ⟨rfl, hb48⟩
                  refine HK.out _ _ ?_
                  clear HK
                  refine ⟨Ord.np (by kernel_rfl), ?_⟩
                  try simp only [List.setIfInBounds_toArray, List.set_cons_zero, List.set_cons_succ]
                  refine Ord.tf 12 238 rfl rfl ?_
                  refine Ord.tf 13 251 rfl rfl ?_
                  refine Ord.tf 14 252 rfl rfl ?_
                  refine Ord.tf 15 25 rfl rfl ?_
                  refine Ord.tf 16 26 rfl rfl ?_
                  refine Ord.done (by kernel_rfl) ?_ _
                  clear hS
                  go_wp2_with (first | (go_at_call 39; refine (num39 _ _).mono ?_; rintro e w' ⟨rfl, rfl⟩))
                  go_meet
                  exact ⟨(hJ4.next (Below.refl _ _).drew).next hb48, (hkk4.next (Below.refl _ _).drew).next hb48⟩
              case rest => as_aux_lemma =>
              clear hJ4 hkk4 hJ hkk hcq hcs
              obtain ⟨hJ, hkk⟩ := hcut
              have hcs : wc.cell? ⟨g2, i * 2 + 1, none⟩ = some (.int .i64 0) := HRW.out _ hkk 1 _ rfl
              by_cases h0 : x.val.kind = 0
              · have HGET := Lib.hid (fun W (F9 : Int) (h : NsAt w.heap.size W hb ov ob xb g xc a l (F - 1) ∧ F9 = 0) => rd_get_thr h.1 ⟨by have := HF3.out; omega, by have := HF3.out; omega⟩ HXM.out (HOK.out x HXM.out) r2 HR2.out.1 HR2.out.2 h0)
                go_upto_region 49 with fail
                refine Ord.region (fun W => W.rangeAt g2 (i * 2) [.string x.name, .int .i64 0] ∧ Blk W w.heap.size (vArr r2) 36) [9, 12] (by kernel_rfl) ⟨HRW.out _ (show KeysAt (World.drew _) _ _ _ from hkk), (show Blk (World.drew _) _ _ _ from hJ.rvb)⟩ ?_
                intro hS
                replace hJ := hJ.next (Below.refl _ _).drew
                replace hkk := hkk.next (Below.refl _ _).drew
                refine Ord.tp 0 267 rfl rfl ?_
                refine Ord.tp 1 268 rfl rfl ?_
                refine Ord.tp 2 269 rfl rfl ?_
                refine Ord.tp 3 270 rfl rfl ?_
                refine Ord.tk 4 271 rfl rfl (yieldsIf_load_mid (by rfl) 40 _ rfl g2 (i * 2) rfl ([.string x.name, .int .i64 0]) _ (fun W hSW => hSW.1) Tryz.underlying40 rfl Tryz.size40) ?_
                refine Ord.tk 5 272 rfl rfl (yieldsIf_load_mid (by rfl) 36 _ rfl w.heap.size 0 rfl ([.int .i64 r2.kind, .bool r2.bool, .float .f64 r2.num, .string r2.str, .int .i64 r2.id]) _ (fun W hSW => range_all hSW.2) Tryz.underlying36 rfl Tryz.size36) ?_
                refine Ord.two (i := 6) (j := 10) rfl rfl (by kernel_rfl) (by rfl) (by rfl) ?_ ?_
                · intro K HK
                  go_simp
                  go_at_call 21
                  refine (HGET.out _ 0 ⟨hJ.at_, rfl⟩).mono ?_
                  rintro e w49 ⟨bt, rfl, hbb, ha9, k9⟩
                  replace hJ := hJ.rd ha9 k9
                  replace hkk := hkk.keeps k9
                  try replace hA27 := Blk.keeps hA27 k9 rfl
                  refine HK.out _ _ ?_
                  clear HK
                  refine Ord.kp ?_ ?_
                  · exact ⟨HRW.out _ hkk, hJ.rvb⟩
                  clear hS
                  intro hS
                  try simp only [List.setIfInBounds_toArray, List.set_cons_zero, List.set_cons_succ]
                  refine Ord.tp 7 266 rfl rfl ?_
                  refine Ord.tp 8 274 rfl rfl ?_
                  refine Ord.tf 9 275 rfl rfl ?_
                  refine Ord.step (i := 10) rfl (by kernel_rfl) (by rfl) ?_
                  intro K HK
                  refine alloc_op 36 rfl (vArr Dc.v0) zero36 ?_
                  intro wA b27 hA27 hb27 hLA
                  have hne27 : b27 ≠ w.heap.size := by have := hJ.rvb.lt; omega
                  have hn27 : w.heap.size ≤ b27 := by rw [hb27]; exact hJ.bel.size
                  clear hb27
                  replace hJ := hJ.next hLA
                  replace hkk := hkk.next hLA
                  try replace hbb := Blk.next hbb hLA
                  refine HK.out _ _ ?_
                  clear HK
                  refine Ord.kp ?_ ?_
                  · exact ⟨HRW.out _ hkk, hJ.rvb⟩
                  clear hS
                  intro hS
                  try simp only [List.setIfInBounds_toArray, List.set_cons_zero, List.set_cons_succ]
                  refine Ord.step (i := 11) rfl (by kernel_rfl) (by rfl) ?_
                  intro K HK
                  refine store_blk_op 36 (.tmp 27) (.tmp 274) rfl b27 (vArr Dc.v0) (vArr Dc.v0) 36 rfl rfl hA27 Tryz.size36 rfl (vArr_one _) ?_
                  intro wS hA28 hOS
                  replace hJ := hJ.free hA27 hOS hn27 hne27
                  replace hkk := hkk.only hA27 (by decide) hOS
                  replace hbb := Blk.only hbb hOS (by simpa using Blk.ne hbb hA27 (by decide))
                  refine HK.out _ _ ?_
                  clear HK
                  refine ⟨Ord.np (by kernel_rfl), ?_⟩
                  try simp only [List.setIfInBounds_toArray, List.set_cons_zero, List.set_cons_succ]
                  refine Ord.tf 12 28 rfl rfl ?_
                  refine Ord.done (by kernel_rfl) ?_ _
                  clear hS
                  have hnq := neqT
                  have hgm := hJ.lk.non x HXM.out h0
                  have hcq9 : wS.cell? ⟨g2, i * 2, none⟩ = some (.string x.name) := HRW.out _ hkk 0 _ rfl
                  go_wp2_with (first | ((with_reducible show wpList _ _ _ (⟨_, .lookup 90 _ _ true, _, _, _, _⟩ :: _) _ _); refine wpList_lookup_s rfl _ _ rfl hJ.map x.name rfl rfl ?_; rw [hgm]) | ((with_reducible show wpList _ _ _ (⟨some 29, .alloc 36, _, _, _, _⟩ :: _) _ _); refine wpList_alloc_blk rfl 36 rfl _ zero36 ?_; intro wL hA29 hL29 hs29; have hJ6 := hJ.next hL29; have hkk6 := hkk.next hL29; have hA276 := hA28.next hL29; have hne29 : wS.heap.size ≠ w.heap.size := (by have := hJ.rvb.lt; omega); have hbb6 := Blk.next hbb hL29) | ((with_reducible show wpList _ _ _ (⟨_, .store 36 _ _, _, _, _, _⟩ :: _) _ _); refine wpList_store_blk rfl 36 _ _ rfl _ (vArr Dc.v0) _ 36 rfl rfl hA29 Tryz.size36 rfl (vArr_one _) ?_; intro wM hA299 hOM; have hJ7 := hJ6.free hA29 hOM hJ.bel.size hne29; have hkk7 := hkk6.only hA29 (by decide) hOM; have hA277 := hA276.only hOM (by have := hA28.lt; simp; omega); have hbb9 := Blk.only hbb6 hOM (by simpa using Blk.ne hbb6 hA29 (by decide))) | (go_at_call 37; refine (faultT _ _ hbb9).mono ?_; rintro e w52 ⟨rfl, hb52⟩; have hJ9 := hJ7.next hb52; have hkk9 := hkk7.next hb52))
                  go_roundg fu
                  case measure => omega
                  case rel => exact ⟨i2, _, by go_num, HI3.out, hJ9, hkk9, by have := HF3.out; omega, by have := HF3.out; omega⟩
                · intro K HK
                  refine alloc_op 36 rfl (vArr Dc.v0) zero36 ?_
                  intro wA b27 hA27 hb27 hLA
                  have hne27 : b27 ≠ w.heap.size := by have := hJ.rvb.lt; omega
                  have hn27 : w.heap.size ≤ b27 := by rw [hb27]; exact hJ.bel.size
                  clear hb27
                  replace hJ := hJ.next hLA
                  replace hkk := hkk.next hLA
                  try replace hbb := Blk.next hbb hLA
                  refine HK.out _ _ ?_
                  clear HK
                  refine Ord.kp ?_ ?_
                  · exact ⟨HRW.out _ hkk, hJ.rvb⟩
                  clear hS
                  intro hS
                  try simp only [List.setIfInBounds_toArray, List.set_cons_zero, List.set_cons_succ]
                  refine Ord.step (i := 6) rfl (by kernel_rfl) (by rfl) ?_
                  intro K HK
                  go_simp
                  go_at_call 21
                  refine (HGET.out _ 0 ⟨hJ.at_, rfl⟩).mono ?_
                  rintro e w49 ⟨bt, rfl, hbb, ha9, k9⟩
                  replace hJ := hJ.rd ha9 k9
                  replace hkk := hkk.keeps k9
                  try replace hA27 := Blk.keeps hA27 k9 rfl
                  refine HK.out _ _ ?_
                  clear HK
                  refine Ord.kp ?_ ?_
                  · exact ⟨HRW.out _ hkk, hJ.rvb⟩
                  clear hS
                  intro hS
                  try simp only [List.setIfInBounds_toArray, List.set_cons_zero, List.set_cons_succ]
                  refine Ord.tp 7 266 rfl rfl ?_
                  refine Ord.tp 8 274 rfl rfl ?_
                  refine Ord.tf 9 275 rfl rfl ?_
                  refine Ord.step (i := 11) rfl (by kernel_rfl) (by rfl) ?_
                  intro K HK
                  refine store_blk_op 36 (.tmp 27) (.tmp 274) rfl b27 (vArr Dc.v0) (vArr Dc.v0) 36 rfl rfl hA27 Tryz.size36 rfl (vArr_one _) ?_
                  intro wS hA28 hOS
                  replace hJ := hJ.free hA27 hOS hn27 hne27
                  replace hkk := hkk.only hA27 (by decide) hOS
                  replace hbb := Blk.only hbb hOS (by simpa using Blk.ne hbb hA27 (by decide))
                  refine HK.out _ _ ?_
                  clear HK
                  refine ⟨Ord.np (by kernel_rfl), ?_⟩
                  try simp only [List.setIfInBounds_toArray, List.set_cons_zero, List.set_cons_succ]
                  refine Ord.tf 12 28 rfl rfl ?_
                  refine Ord.done (by kernel_rfl) ?_ _
                  clear hS
                  have hnq := neqT
                  have hgm := hJ.lk.non x HXM.out h0
                  have hcq9 : wS.cell? ⟨g2, i * 2, none⟩ = some (.string x.name) := HRW.out _ hkk 0 _ rfl
                  go_wp2_with (first | ((with_reducible show wpList _ _ _ (⟨_, .lookup 90 _ _ true, _, _, _, _⟩ :: _) _ _); refine wpList_lookup_s rfl _ _ rfl hJ.map x.name rfl rfl ?_; rw [hgm]) | ((with_reducible show wpList _ _ _ (⟨some 29, .alloc 36, _, _, _, _⟩ :: _) _ _); refine wpList_alloc_blk rfl 36 rfl _ zero36 ?_; intro wL hA29 hL29 hs29; have hJ6 := hJ.next hL29; have hkk6 := hkk.next hL29; have hA276 := hA28.next hL29; have hne29 : wS.heap.size ≠ w.heap.size := (by have := hJ.rvb.lt; omega); have hbb6 := Blk.next hbb hL29) | ((with_reducible show wpList _ _ _ (⟨_, .store 36 _ _, _, _, _, _⟩ :: _) _ _); refine wpList_store_blk rfl 36 _ _ rfl _ (vArr Dc.v0) _ 36 rfl rfl hA29 Tryz.size36 rfl (vArr_one _) ?_; intro wM hA299 hOM; have hJ7 := hJ6.free hA29 hOM hJ.bel.size hne29; have hkk7 := hkk6.only hA29 (by decide) hOM; have hA277 := hA276.only hOM (by have := hA28.lt; simp; omega); have hbb9 := Blk.only hbb6 hOM (by simpa using Blk.ne hbb6 hA29 (by decide))) | (go_at_call 37; refine (faultT _ _ hbb9).mono ?_; rintro e w52 ⟨rfl, hb52⟩; have hJ9 := hJ7.next hb52; have hkk9 := hkk7.next hb52))
                  go_roundg fu
                  case measure => omega
                  case rel => exact ⟨i2, _, by go_num, HI3.out, hJ9, hkk9, by have := HF3.out; omega, by have := HF3.out; omega⟩
              · have HGET := Lib.hid (fun W (F9 : Int) (h : NsAt w.heap.size W hb ov ob xb g xc a l (F - 1) ∧ F9 = 0) => rd_get_some h.1 ⟨by have := HF3.out; omega, by have := HF3.out; omega⟩ HXM.out (HOK.out x HXM.out) r2 HR2.out.1 HR2.out.2 h0)
                go_upto_region 49 with fail
                refine Ord.region (fun W => W.rangeAt g2 (i * 2) [.string x.name, .int .i64 0] ∧ Blk W w.heap.size (vArr r2) 36) [9, 12] (by kernel_rfl) ⟨HRW.out _ (show KeysAt (World.drew _) _ _ _ from hkk), (show Blk (World.drew _) _ _ _ from hJ.rvb)⟩ ?_
                intro hS
                replace hJ := hJ.next (Below.refl _ _).drew
                replace hkk := hkk.next (Below.refl _ _).drew
                refine Ord.tp 0 267 rfl rfl ?_
                refine Ord.tp 1 268 rfl rfl ?_
                refine Ord.tp 2 269 rfl rfl ?_
                refine Ord.tp 3 270 rfl rfl ?_
                refine Ord.tk 4 271 rfl rfl (yieldsIf_load_mid (by rfl) 40 _ rfl g2 (i * 2) rfl ([.string x.name, .int .i64 0]) _ (fun W hSW => hSW.1) Tryz.underlying40 rfl Tryz.size40) ?_
                refine Ord.tk 5 272 rfl rfl (yieldsIf_load_mid (by rfl) 36 _ rfl w.heap.size 0 rfl ([.int .i64 r2.kind, .bool r2.bool, .float .f64 r2.num, .string r2.str, .int .i64 r2.id]) _ (fun W hSW => range_all hSW.2) Tryz.underlying36 rfl Tryz.size36) ?_
                refine Ord.two (i := 6) (j := 10) rfl rfl (by kernel_rfl) (by rfl) (by rfl) ?_ ?_
                · intro K HK
                  go_simp
                  go_at_call 21
                  refine (HGET.out _ 0 ⟨hJ.at_, rfl⟩).mono ?_
                  rintro e w49 ⟨rfl, ha9, k9⟩
                  replace hJ := hJ.rd ha9 k9
                  replace hkk := hkk.keeps k9
                  try replace hA27 := Blk.keeps hA27 k9 rfl
                  refine HK.out _ _ ?_
                  clear HK
                  refine Ord.kp ?_ ?_
                  · exact ⟨HRW.out _ hkk, hJ.rvb⟩
                  clear hS
                  intro hS
                  try simp only [List.setIfInBounds_toArray, List.set_cons_zero, List.set_cons_succ]
                  refine Ord.tp 7 266 rfl rfl ?_
                  refine Ord.tp 8 274 rfl rfl ?_
                  refine Ord.tf 9 275 rfl rfl ?_
                  refine Ord.step (i := 10) rfl (by kernel_rfl) (by rfl) ?_
                  intro K HK
                  refine alloc_op 36 rfl (vArr Dc.v0) zero36 ?_
                  intro wA b27 hA27 hb27 hLA
                  have hne27 : b27 ≠ w.heap.size := by have := hJ.rvb.lt; omega
                  have hn27 : w.heap.size ≤ b27 := by rw [hb27]; exact hJ.bel.size
                  clear hb27
                  replace hJ := hJ.next hLA
                  replace hkk := hkk.next hLA
                  refine HK.out _ _ ?_
                  clear HK
                  refine Ord.kp ?_ ?_
                  · exact ⟨HRW.out _ hkk, hJ.rvb⟩
                  clear hS
                  intro hS
                  try simp only [List.setIfInBounds_toArray, List.set_cons_zero, List.set_cons_succ]
                  refine Ord.step (i := 11) rfl (by kernel_rfl) (by rfl) ?_
                  intro K HK
                  refine store_blk_op 36 (.tmp 27) (.tmp 274) rfl b27 (vArr x.val) (vArr Dc.v0) 36 rfl rfl hA27 Tryz.size36 rfl (vArr_one _) ?_
                  intro wS hA28 hOS
                  replace hJ := hJ.free hA27 hOS hn27 hne27
                  replace hkk := hkk.only hA27 (by decide) hOS
                  refine HK.out _ _ ?_
                  clear HK
                  refine ⟨Ord.np (by kernel_rfl), ?_⟩
                  try simp only [List.setIfInBounds_toArray, List.set_cons_zero, List.set_cons_succ]
                  refine Ord.tf 12 28 rfl rfl ?_
                  refine Ord.done (by kernel_rfl) ?_ _
                  clear hS
                  have hgm := hJ.lk.som x HXM.out h0
                  have hcq9 : wS.cell? ⟨g2, i * 2, none⟩ = some (.string x.name) := HRW.out _ hkk 0 _ rfl
                  go_wp2_with (first | ((with_reducible show wpList _ _ _ (⟨_, .lookup 90 _ _ true, _, _, _, _⟩ :: _) _ _); refine wpList_lookup_s rfl _ _ rfl hJ.map x.name rfl rfl ?_; rw [hgm]) | ((with_reducible show wpList _ _ _ (⟨some 29, .alloc 36, _, _, _, _⟩ :: _) _ _); refine wpList_alloc_blk rfl 36 rfl _ zero36 ?_; intro wL hA29 hL29 hs29; have hJ6 := hJ.next hL29; have hkk6 := hkk.next hL29; have hA276 := hA28.next hL29; have hne29 : wS.heap.size ≠ w.heap.size := (by have := hJ.rvb.lt; omega)) | ((with_reducible show wpList _ _ _ (⟨_, .store 36 _ _, _, _, _, _⟩ :: _) _ _); refine wpList_store_blk rfl 36 _ _ rfl _ (vArr x.val) _ 36 rfl rfl hA29 Tryz.size36 rfl (vArr_one _) ?_; intro wM hA299 hOM; have hJ7 := hJ6.free hA29 hOM hJ.bel.size hne29; have hkk7 := hkk6.only hA29 (by decide) hOM; have hA277 := hA276.only hOM (by have := hA28.lt; simp; omega)) | ((with_reducible show wpList _ _ _ (⟨_, .load 36 (.tmp 27), _, _, _, _⟩ :: _) _ _); refine wpList_load_blkW (by rfl) 36 _ rfl _ rfl hA277 Tryz.row36 Tryz.size36 ?_) | ((with_reducible show wpList _ _ _ (⟨_, .load 36 (.tmp 29), _, _, _, _⟩ :: _) _ _); refine wpList_load_blkW (by rfl) 36 _ rfl _ rfl hA299 Tryz.row36 Tryz.size36 ?_) | (go_at_call 49; refine (eqv_refl x.val _).mono ?_; rintro e w52 ⟨rfl, hb52⟩; have hJ9 := hJ7.next hb52; have hkk9 := hkk7.next hb52))
                  go_roundg fu
                  case measure => omega
                  case rel => exact ⟨i2, _, by go_num, HI3.out, hJ9, hkk9, by have := HF3.out; omega, by have := HF3.out; omega⟩
                · intro K HK
                  refine alloc_op 36 rfl (vArr Dc.v0) zero36 ?_
                  intro wA b27 hA27 hb27 hLA
                  have hne27 : b27 ≠ w.heap.size := by have := hJ.rvb.lt; omega
                  have hn27 : w.heap.size ≤ b27 := by rw [hb27]; exact hJ.bel.size
                  clear hb27
                  replace hJ := hJ.next hLA
                  replace hkk := hkk.next hLA
                  refine HK.out _ _ ?_
                  clear HK
                  refine Ord.kp ?_ ?_
                  · exact ⟨HRW.out _ hkk, hJ.rvb⟩
                  clear hS
                  intro hS
                  try simp only [List.setIfInBounds_toArray, List.set_cons_zero, List.set_cons_succ]
                  refine Ord.step (i := 6) rfl (by kernel_rfl) (by rfl) ?_
                  intro K HK
                  go_simp
                  go_at_call 21
                  refine (HGET.out _ 0 ⟨hJ.at_, rfl⟩).mono ?_
                  rintro e w49 ⟨rfl, ha9, k9⟩
                  replace hJ := hJ.rd ha9 k9
                  replace hkk := hkk.keeps k9
                  try replace hA27 := Blk.keeps hA27 k9 rfl
                  refine HK.out _ _ ?_
                  clear HK
                  refine Ord.kp ?_ ?_
                  · exact ⟨HRW.out _ hkk, hJ.rvb⟩
                  clear hS
                  intro hS
                  try simp only [List.setIfInBounds_toArray, List.set_cons_zero, List.set_cons_succ]
                  refine Ord.tp 7 266 rfl rfl ?_
                  refine Ord.tp 8 274 rfl rfl ?_
                  refine Ord.tf 9 275 rfl rfl ?_
                  refine Ord.step (i := 11) rfl (by kernel_rfl) (by rfl) ?_
                  intro K HK
                  refine store_blk_op 36 (.tmp 27) (.tmp 274) rfl b27 (vArr x.val) (vArr Dc.v0) 36 rfl rfl hA27 Tryz.size36 rfl (vArr_one _) ?_
                  intro wS hA28 hOS
                  replace hJ := hJ.free hA27 hOS hn27 hne27
                  replace hkk := hkk.only hA27 (by decide) hOS
                  refine HK.out _ _ ?_
                  clear HK
                  refine ⟨Ord.np (by kernel_rfl), ?_⟩
                  try simp only [List.setIfInBounds_toArray, List.set_cons_zero, List.set_cons_succ]
                  refine Ord.tf 12 28 rfl rfl ?_
                  refine Ord.done (by kernel_rfl) ?_ _
                  clear hS
                  have hgm := hJ.lk.som x HXM.out h0
                  have hcq9 : wS.cell? ⟨g2, i * 2, none⟩ = some (.string x.name) := HRW.out _ hkk 0 _ rfl
                  go_wp2_with (first | ((with_reducible show wpList _ _ _ (⟨_, .lookup 90 _ _ true, _, _, _, _⟩ :: _) _ _); refine wpList_lookup_s rfl _ _ rfl hJ.map x.name rfl rfl ?_; rw [hgm]) | ((with_reducible show wpList _ _ _ (⟨some 29, .alloc 36, _, _, _, _⟩ :: _) _ _); refine wpList_alloc_blk rfl 36 rfl _ zero36 ?_; intro wL hA29 hL29 hs29; have hJ6 := hJ.next hL29; have hkk6 := hkk.next hL29; have hA276 := hA28.next hL29; have hne29 : wS.heap.size ≠ w.heap.size := (by have := hJ.rvb.lt; omega)) | ((with_reducible show wpList _ _ _ (⟨_, .store 36 _ _, _, _, _, _⟩ :: _) _ _); refine wpList_store_blk rfl 36 _ _ rfl _ (vArr x.val) _ 36 rfl rfl hA29 Tryz.size36 rfl (vArr_one _) ?_; intro wM hA299 hOM; have hJ7 := hJ6.free hA29 hOM hJ.bel.size hne29; have hkk7 := hkk6.only hA29 (by decide) hOM; have hA277 := hA276.only hOM (by have := hA28.lt; simp; omega)) | ((with_reducible show wpList _ _ _ (⟨_, .load 36 (.tmp 27), _, _, _, _⟩ :: _) _ _); refine wpList_load_blkW (by rfl) 36 _ rfl _ rfl hA277 Tryz.row36 Tryz.size36 ?_) | ((with_reducible show wpList _ _ _ (⟨_, .load 36 (.tmp 29), _, _, _, _⟩ :: _) _ _); refine wpList_load_blkW (by rfl) 36 _ rfl _ rfl hA299 Tryz.row36 Tryz.size36 ?_) | (go_at_call 49; refine (eqv_refl x.val _).mono ?_; rintro e w52 ⟨rfl, hb52⟩; have hJ9 := hJ7.next hb52; have hkk9 := hkk7.next hb52))
                  go_roundg fu
                  case measure => omega
                  case rel => exact ⟨i2, _, by go_num, HI3.out, hJ9, hkk9, by have := HF3.out; omega, by have := HF3.out; omega⟩
            · as_aux_lemma =>
              obtain rfl : i = n := by have := HN1.out; omega
              have hkx := lawKeys_tag l
              rw [HLL.out] at hkx
              obtain ⟨g2, rfl, _⟩ := HAK.out wr i _ hkx hkk
              have HRW : Hid (∀ W, KeysAt W 0 (.slice (some ⟨g2, 0, none⟩) N1 cK) (lawKeys l) → W.rangeAt g2 (i * 2) [.string ByteArray.empty, .int .i64 12]) := Lib.hid fun W h => by
                obtain ⟨g3, e, h3⟩ := HAK.out W i _ hkx h
                cases e; exact h3
              have e8 : ¬ (i : Int) < (i : Int) := by omega
              obtain ⟨b9, hb9⟩ : ∃ b9, hasB qs ByteArray.empty = b9 := ⟨_, rfl⟩
              have HC45 : Hid (∀ W, Below w.heap.size w W → Calls Tryz.prog 45 #[.slice A i ca, .string ByteArray.empty] W fun e w' => HasPost b9 W e w') := Lib.hid fun W h => by
                have := has45 (n0 := w.heap.size) (w := W) (qs := qs) ca ByteArray.empty (HA.out.below h) (by rw [HNN.out]; omega)
                rw [hb9, HNN.out] at this
                exact this
              clear hb9 hin hi hlt hi2
              by_cases hi0 : i = 0
              · have e9 : ¬ (0 : Int) < (i : Int) := by omega
                clear hi0
                go_wp2_with (first | ((with_reducible show wpList _ _ _ (⟨_, .load 40 (.tmp 184), _, _, _, _⟩ :: _) _ _); refine wpList_load_mid rfl 40 _ rfl g2 (i * 2) rfl [.string ByteArray.empty, .int .i64 12] _ (HRW.out _ hkk) Tryz.underlying40 rfl Tryz.size40 ?_) | (go_at_call 47; refine (rd_has hJ.at_ ⟨by have := HF3.out; omega, by have := HF3.out; omega⟩ hkx HOK.out).mono ?_; rintro e w40 ⟨rfl, ha4, k4⟩; have hJ4 := hJ.rd ha4 k4; have hkk4 := hkk.keeps k4; have hcq : w40.cell? ⟨g2, i * 2, none⟩ = some (.string ByteArray.empty) := HRW.out _ hkk4 0 _ rfl; have hcs : w40.cell? ⟨g2, i * 2 + 1, none⟩ = some (.int .i64 12) := HRW.out _ hkk4 1 _ rfl) | (go_at_call 45; refine (HC45.out _ hJ4.bel).mono ?_; rintro e w' ⟨i9, rfl, rfl⟩))
                go_roundg fu
                case measure => omega
                case rel => exact ⟨i2, _, by go_num, HI3.out, hJ4, hkk4, by have := HF3.out; omega, by have := HF3.out; omega⟩
              · have e9 : (0 : Int) < (i : Int) := by omega
                go_wp2_with (first | ((with_reducible show wpList _ _ _ (⟨_, .load 40 (.tmp 184), _, _, _, _⟩ :: _) _ _); refine wpList_load_mid rfl 40 _ rfl g2 (i * 2) rfl [.string ByteArray.empty, .int .i64 12] _ (HRW.out _ hkk) Tryz.underlying40 rfl Tryz.size40 ?_) | (go_at_call 47; refine (rd_has hJ.at_ ⟨by have := HF3.out; omega, by have := HF3.out; omega⟩ hkx HOK.out).mono ?_; rintro e w40 ⟨rfl, ha4, k4⟩; have hJ4 := hJ.rd ha4 k4; have hkk4 := hkk.keeps k4; have hcq : w40.cell? ⟨g2, i * 2, none⟩ = some (.string ByteArray.empty) := HRW.out _ hkk4 0 _ rfl; have hcs : w40.cell? ⟨g2, i * 2 + 1, none⟩ = some (.int .i64 12) := HRW.out _ hkk4 1 _ rfl) | (go_at_call 45; refine (HC45.out _ hJ4.bel).mono ?_; rintro e w' ⟨i9, rfl, rfl⟩))
                go_roundg fu
                case measure => omega
                case rel => exact ⟨i2, _, by go_num, HI3.out, hJ4, hkk4, by have := HF3.out; omega, by have := HF3.out; omega⟩
          · obtain rfl : i = N1 := by omega
            have hlti : ¬ (i : Int) < (i : Int) := by omega
            go_wp2
            go_ret
            exact ⟨rfl, hJ.bel⟩

end Go.Proofs.YtoalboilghgalaaGreatDoor
