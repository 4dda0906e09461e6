/- Lemmas for this claim, in parts: Law. -/
import Derived.Test.YtoalboilghgalaaGreatDoorA34
import Derived.Test.YtoalboilghgalaaGreatDoorA35
import Derived.Test.YtoalboilghgalaaGreatDoorA37
import Derived.Test.YtoalboilghgalaaGreatDoorA38
import Derived.Deep.DeepCutAuto
/- IntegrityPrefix: the law. -/
namespace Go.Proofs.YtoalboilghgalaaGreatDoor
open Go.RowKit
open Go.Proofs.Dc (V Ds Ky)
attribute [local go_sem] run_store_float

attribute [local go_sem] Oper.semAt_some
theorem PropsAt.len {W : World} {v : Value} {L : List (Ky × Ds)} {l : Nat} (h : PropsAt W v L) (hl : L.length = l) : ∃ a c, v = .slice a l c := by
  subst hl
  rcases h with ⟨rfl, rfl⟩ | ⟨_, g, c, rfl, _⟩
  · exact ⟨none, 0, rfl⟩
  · exact ⟨some ⟨g, 0, none⟩, c, rfl⟩
theorem field83 (n : Int) (w : World) : (Instr.field 83 (.agg (fArr n)) 0).run Tryz.prog w = .ok (.int .i64 n) w := by kernel_rfl
theorem wrap_some (f : Int) : ∃ u : Nat, IntKind.u64.wrap f = (u : Int) ∧ u < 18446744073709551616 := by
  unfold IntKind.wrap
  simp only [IntKind.signed, IntKind.bits]
  refine ⟨(f % 18446744073709551616).toNat, ?_, by omega⟩
  simp
  omega
set_option maxRecDepth 100000 in
set_option maxHeartbeats 4000000 in
theorem law_big (w : World) (A : Option Addr) (ps : List (Ky × Ds)) (cap : Nat) (f : Int) (fz : Bool) (hT : Tabs w) (htn : Tryz.lays197_ren.g 3 < w.heap.size ∧ Tryz.lays197_ren.g 4 < w.heap.size) (hps : 100 < ps.length) :
    Calls Tryz.prog 4 #[.slice A ps.length cap, .int .i64 f, .bool fz] w fun e w' => e = .returned (.bool true) ∧ Below w.heap.size w w' := by
  have e1 : (100 : Int) < (ps.length : Int) := by omega
  go_enter Tryz.func4, Tryz.ntmps4
  go_wp2_with (first | (go_at_call 29; refine (awake_any _ hT htn).mono ?_; rintro e w1 ⟨rfl, hL1⟩; have hs1 := hL1.size))
  go_ret
  exact ⟨rfl, hL1⟩

set_option maxRecDepth 100000 in
set_option maxHeartbeats 4000000 in
theorem law_small (w : World) (A : Option Addr) (ps : List (Ky × Ds)) (cap : Nat) (f : Int) (fz : Bool) (hT : Tabs w) (htn : Tryz.lays197_ren.g 3 < w.heap.size ∧ Tryz.lays197_ren.g 4 < w.heap.size) (hA : ArgAt w.heap.size w A ps) (hnums : ∀ p ∈ ps, Nums p.2) (hps : ps.length ≤ 100) :
    Calls Tryz.prog 4 #[.slice A ps.length cap, .int .i64 f, .bool fz] w fun e w' => e = .returned (.bool true) ∧ Below w.heap.size w w' := by
  have e1 : ¬ (100 : Int) < (ps.length : Int) := by omega
  have HPS := Lib.hid hps
  go_enter Tryz.func4, Tryz.ntmps4
  go_upto_region 8 with (first | (go_at_call 29; refine (awake_any _ hT htn).mono ?_; rintro e w1 ⟨rfl, hL1⟩; have hs1 := hL1.size) | (go_at_call 8; refine (new_any 1 100000 _ (by decide) (by decide) (by decide)).mono ?_; rintro e w2 ⟨rfl, hH, hL2⟩; have hs2 := hL2.size))
  go_wp2_with (first | (go_at_call 30; refine (newof_any w.heap.size w1.heap.size _ (by omega) hs1 (hT.below (hL1.trans (hL2.mono hs1))) htn hH A ps cap (hA.below (hL1.trans (hL2.mono hs1))) HPS.out hnums).mono ?_; rintro e w3 (⟨ne, hne, rfl, k3⟩ | ⟨ov, ob, tp, L, F, rfl, s3, hx, hl3, k3⟩)))
  · go_ret
    exact ⟨rfl, (hL1.trans (hL2.mono hs1)).trans k3.below⟩
  · have cur := (⟨s3, (Keeps.of_below (hL1.trans (hL2.mono hs1)) (Nat.le_refl _)).trans k3, by simp, by simp, Nat.le_refl _⟩ : Bag w.heap.size w w3 w1.heap.size ov ob tp 1 F 0 kO true L [])
    obtain ⟨hb, hhb⟩ : ∃ hb, w1.heap.size = hb := ⟨_, rfl⟩
    rw [hhb] at cur ⊢
    obtain ⟨N, hN⟩ : ∃ N, ps.length = N := ⟨_, rfl⟩
    rw [hN] at e1 hl3 hps ⊢
    obtain ⟨l, hl⟩ : ∃ l, L.length = l := ⟨_, rfl⟩
    have hpl : (picL L).length = l := by rw [picL_length, hl]
    clear HPS hT htn hA hnums hL1 hL2 hs1 hs2 hH k3 s3 hhb hN
    go_upto_region 12 with (first | (go_at_call 31; refine (picture_any cur.s (by omega) hx).mono ?_; rintro e w4 ⟨pv, tp4, rfl, hpv, s9, k9⟩; replace cur := cur.go s9 k9; clear s9 k9; obtain ⟨p1, c1, rfl⟩ := hpv.len hpl) | ((with_reducible show wpList _ _ _ (⟨some 11, .alloc 73, _, _, _, _⟩ :: _) _ _); refine wpList_alloc_blk rfl 73 rfl sZero zero73 ?_; intro w5 hB hL hs; have hle11 := cur.k.size; replace hpv := hpv.below hL; replace cur := cur.push hL hB (Nat.le_refl _) rfl; clear hB hL hs) | ((with_reducible show wpList _ _ _ (⟨_, .store 73 (.tmp 11) _, _, _, _, _⟩ :: _) _ _); refine wpList_store_blk rfl 73 _ _ rfl _ (sArr 0 vN false (.slice p1 l c1)) _ 73 rfl rfl (cur.blk 0 rfl) Tryz.size73 rfl (sArr_one rfl) ?_; intro w6 hB hO; replace hpv := hpv.free (cur.blk 0 rfl) hO (by decide); replace cur := cur.set 0 rfl hO hB hle11; clear hB hO))
    obtain ⟨b11, hb11⟩ : ∃ b, w4.heap.size = b := ⟨_, rfl⟩
    rw [hb11] at cur hle11 ⊢
    clear hb11
    obtain ⟨u, hu, hu2⟩ := wrap_some f
    obtain ⟨N3, hN3⟩ : ∃ N3, N3 = 3 * N := ⟨_, rfl⟩
    obtain ⟨m, hm⟩ : ∃ m, m = 2 + N3 := ⟨_, rfl⟩
    obtain ⟨q, hq⟩ : ∃ q, q = u % m := ⟨_, rfl⟩
    have hqm : q < m := by rw [hq]; exact Nat.mod_lt _ (by omega)
    have hq1 : q ≤ 301 := by omega
    go_cut [1] (fun s1 wx => s1 = .int .i64 q ∧ w6 = wx)
    case first =>
      have a1 : (3 : Int) * (N : Int) = (N3 : Int) := by omega
      have a2 := wrap_nat N3 (by omega)
      have a3 : (2 : Int) + (N3 : Int) = (m : Int) := by omega
      have a4 := wrap_nat m (by omega)
      have a5 := wrap_u64 m (by omega)
      have a6 : Int.tmod (u : Int) (m : Int) = (q : Int) := by rw [hq]; rfl
      have a7 := wrap_u64 q (by omega)
      have a8 := wrap_nat q (by omega)
      have a9 : ¬ (m : Int) = 0 := by omega
      clear hq hm hN3 hu2 hqm
      go_wp2_with fail
      go_meet
      exact ⟨rfl, rfl⟩
    case rest => as_aux_lemma =>
    obtain ⟨rfl, rfl⟩ := hcut
    obtain ⟨R, hR⟩ : ∃ R, fixAt fz q true L = R := ⟨_, rfl⟩
    have hlaw := fixAt_law fz q true hx
    have hok := fixAt_ok fz q true hx
    have HC : Hid (∀ W (tp : Option Addr) (s : StX w.heap.size W hb ov ob tp 1 q 0 kO true L), Calls Tryz.prog (if fz = true then 33 else 34) #[.pointer (some ⟨hb, 0, none⟩), .int .i64 1] W fun e w' => FixPost w.heap.size W hb ov ob 1 R e w') := Lib.hid fun W tp s => by
      rw [← hR]
      cases fz
      · exact seal_any s (by omega) hx
      · exact freeze_any s (by omega) hx
    rw [hR] at hlaw hok
    obtain ⟨b, f1, x1, M⟩ := R
    obtain ⟨g1, g2, g3, g4⟩ := hlaw
    obtain ⟨g5, g6⟩ := hok
    simp only at g1 g2 g3 g4 g5 g6
    replace HC : Hid (∀ W (tp : Option Addr) (s : StX w.heap.size W hb ov ob tp 1 q 0 kO true L), Calls Tryz.prog (if fz = true then 33 else 34) #[.pointer (some ⟨hb, 0, none⟩), .int .i64 1] W fun e w' => ∃ tp, e = .returned (.tuple #[.bool b, if b then .nilIface else errV 1]) ∧ StX w.heap.size w' hb ov ob tp 1 ((f1 : Nat) : Int) 0 kO x1 M ∧ Keeps w.heap.size W w') := HC
    have hml : M.length = l := g6.trans hl
    have hpm : (picL M).length = l := by rw [picL_length, hml]
    have HG := Lib.hid (And.intro g1 (And.intro g2 (And.intro g3 (And.intro g4 (And.intro g5 (And.intro hl hml))))))
    have HQ := Lib.hid (And.intro hq1 (And.intro hl3 hps))
    have HPM := Lib.hid hpm
    clear hR g1 g2 g3 g4 g5 g6 hx hl hml hpm hu hu2 hN3 hm hq hqm hq1 hps hl3 e1 hpl
    cases b
    · cases fz
      · go_upto_region 21 with (first | (go_at_call 32; refine (refuel_any cur.s _ (by omega)).mono ?_; rintro e w7 ⟨rfl, s9, k9⟩; replace hpv := hpv.keeps k9; replace cur := cur.go s9 k9; clear s9 k9) | ((first | go_at_call 33 | go_at_call 34); refine (HC.out _ _ cur.s).mono ?_; rintro e w8 ⟨tp8, rfl, s9, k9⟩; replace hpv := hpv.keeps k9; replace cur := cur.go s9 k9; clear s9 k9) | (go_at_call 35; refine (shape_any cur.s kO_ok).mono ?_; rintro e w9 ⟨pv2, rfl, hp2, s9, k9⟩; have ho2 := hp2.one; clear hp2; replace hpv := hpv.keeps k9; replace cur := cur.go s9 k9; clear s9 k9) | (go_at_call 31; refine (picture_any cur.s (by omega) HG.out.2.2.2.2.1).mono ?_; rintro e w12 ⟨pv3, tp9, rfl, hq3, s9, k9⟩; replace hpv := hpv.keeps k9; replace cur := cur.go s9 k9; clear s9 k9; obtain ⟨p3, c3, rfl⟩ := hq3.len HPM.out) | ((with_reducible show wpList _ _ _ (⟨some 14, .alloc 73, _, _, _, _⟩ :: _) _ _); refine wpList_alloc_blk rfl 73 rfl sZero zero73 ?_; intro w10 hB hL hs; have hle14 := cur.k.size; replace hpv := hpv.below hL; replace cur := cur.push hL hB (Nat.le_refl _) rfl; clear hB hL hs) | ((with_reducible show wpList _ _ _ (⟨_, .store 73 (.tmp 14) _, _, _, _, _⟩ :: _) _ _); refine wpList_store_blk rfl 73 _ _ rfl _ (sArr kO.cls kO.proto x1 pv2) _ 73 rfl rfl (cur.blk 0 rfl) Tryz.size73 rfl (sArr_one ho2) ?_; intro w11 hB hO; replace hpv := hpv.free (cur.blk 0 rfl) hO (by decide); replace cur := cur.set 0 rfl hO hB hle14; clear hB hO) | ((with_reducible show wpList _ _ _ (⟨some 16, .alloc 73, _, _, _, _⟩ :: _) _ _); refine wpList_alloc_blk rfl 73 rfl sZero zero73 ?_; intro w13 hB hL hs; have hle16 := cur.k.size; replace hpv := hpv.below hL; replace hq3 := hq3.below hL; replace cur := cur.push hL hB (Nat.le_refl _) rfl; clear hB hL hs) | ((with_reducible show wpList _ _ _ (⟨_, .store 73 (.tmp 16) _, _, _, _, _⟩ :: _) _ _); refine wpList_store_blk rfl 73 _ _ rfl _ (sArr 0 vN false (.slice p3 l c3)) _ 73 rfl rfl (cur.blk 0 rfl) Tryz.size73 rfl (sArr_one rfl) ?_; intro w14 hB hO; replace hpv := hpv.free (cur.blk 0 rfl) hO (by decide); replace hq3 := hq3.free (cur.blk 0 rfl) hO (by decide); replace cur := cur.set 0 rfl hO hB hle16; clear hB hO))
        obtain ⟨b14, hb14⟩ : ∃ x, w9.heap.size = x := ⟨_, rfl⟩
        obtain ⟨b16, hb16⟩ : ∃ x, w12.heap.size = x := ⟨_, rfl⟩
        rw [hb14] at cur hle14 ⊢
        rw [hb16] at cur hle16 ⊢
        clear hb14 hb16
        go_cut [108] (fun s wx => s = .bool false ∧ w14 = wx)
        case first =>
          by_cases hq0 : q = 0
          · have hx1 : x1 = true := by rw [HG.out.1, if_pos hq0]
            subst hx1
            have hq1 : ((q : Int) == 0) = true := by simp; omega
            clear hq0
            go_wp2_with (first | ((with_reducible show wpList _ _ _ (⟨_, .load 22 (.tmp 94), _, _, _, _⟩ :: _) _ _); refine wpList_load1 (by rfl) 22 _ rfl b16 7 rfl (.slice p3 l c3) (Tryz.isAgg22' _) ((cur.blk 0 rfl).cell 7) ?_) | ((with_reducible show wpList _ _ _ (⟨_, .load 22 (.tmp 97), _, _, _, _⟩ :: _) _ _); refine wpList_load1 (by rfl) 22 _ rfl b11 7 rfl (.slice p1 l c1) (Tryz.isAgg22' _) ((cur.blk 2 rfl).cell 7) ?_) | ((with_reducible show wpList _ _ _ (⟨_, .load 4 (.tmp 103), _, _, _, _⟩ :: _) _ _); refine wpList_load1 (by rfl) 4 _ rfl b14 6 rfl (.bool true) (Tryz.isAgg4 _) ((cur.blk 1 rfl).cell 6) ?_))
            go_meet
            exact ⟨rfl, rfl⟩
          · have hx1 : x1 = false := by rw [HG.out.1, if_neg hq0]
            subst hx1
            have hq1 : ((q : Int) == 0) = false := by simp; omega
            clear hq0
            go_wp2_with (first | ((with_reducible show wpList _ _ _ (⟨_, .load 22 (.tmp 94), _, _, _, _⟩ :: _) _ _); refine wpList_load1 (by rfl) 22 _ rfl b16 7 rfl (.slice p3 l c3) (Tryz.isAgg22' _) ((cur.blk 0 rfl).cell 7) ?_) | ((with_reducible show wpList _ _ _ (⟨_, .load 22 (.tmp 97), _, _, _, _⟩ :: _) _ _); refine wpList_load1 (by rfl) 22 _ rfl b11 7 rfl (.slice p1 l c1) (Tryz.isAgg22' _) ((cur.blk 2 rfl).cell 7) ?_) | ((with_reducible show wpList _ _ _ (⟨_, .load 4 (.tmp 103), _, _, _, _⟩ :: _) _ _); refine wpList_load1 (by rfl) 4 _ rfl b14 6 rfl (.bool false) (Tryz.isAgg4 _) ((cur.blk 1 rfl).cell 6) ?_))
            go_meet
            exact ⟨rfl, rfl⟩
        case rest => as_aux_lemma =>
        obtain ⟨rfl, rfl⟩ := hcut
        go_upto_region 26 with fail
        obtain ⟨dn, hdn⟩ : ∃ dn, doneN false q = dn := ⟨_, rfl⟩
        go_cut [18] (fun s wx => s = .int .i64 dn ∧ w14 = wx)
        case first =>
          have hqb := HQ.out.1
          unfold doneN cost at hdn
          simp only [Bool.false_eq_true, if_false, if_true] at hdn
          have v1 : IntKind.i64.wrap (-2) = -2 := by decide
          have v2 : IntKind.i64.wrap (-1) = -1 := by decide
          by_cases hq2 : q < 2
          · obtain rfl : dn = 0 := by omega
            by_cases hq0 : q = 0
            · have hq1 : (q : Int) = 0 := by omega
              have hq3 : (0 : Int) - 2 = -2 := by omega
              clear hq2 hq0 hqb hdn
              go_wp2_with fail
              go_meet
              exact ⟨rfl, rfl⟩
            · have hq1 : (q : Int) = 1 := by omega
              have hq3 : (1 : Int) - 2 = -1 := by omega
              clear hq2 hq0 hqb hdn
              go_wp2_with fail
              go_meet
              exact ⟨rfl, rfl⟩
          · obtain ⟨q2, hq3⟩ : ∃ q2, q = q2 + 2 := ⟨q - 2, by omega⟩
            have a1 : (q : Int) - 2 = (q2 : Int) := by omega
            have a2 := wrap_nat q2 (by omega)
            have a3 : Int.tdiv (q2 : Int) 1 = (dn : Int) := by rw [Int.tdiv_one]; omega
            have a4 := wrap_nat dn (by omega)
            have a5 : (0 : Int) ≤ (dn : Int) := by omega
            clear hq2 hq3 hqb hdn
            go_wp2_with fail
            go_meet
            exact ⟨rfl, rfl⟩
        case rest => as_aux_lemma =>
        obtain ⟨rfl, rfl⟩ := hcut
        have hlm := HG.out.2.2.2.2.2
        have hqb := HQ.out
        have hd2 := HG.out.2.2.2.1 (by simp)
        have HB := Lib.hid (show Begun false dn (picL M) (picL L) by rw [← hdn]; exact HG.out.2.1)
        rw [hdn, hlm.1] at hd2
        have HLL := Lib.hid (show (picL L).length < 1000000 by rw [picL_length, hlm.1]; omega)
        have hfd := field83 1
        by_cases hq2 : q < 2
        · have e1 : (q : Int) < 2 := by omega
          clear hd2 hlm hqb hdn hq2
          go_wp2_with (first | (go_at_call 37; refine (fault_any 1 _).mono ?_; rintro e wy ⟨rfl, hby⟩; replace hpv := hpv.below hby; replace hq3 := hq3.below hby; replace cur := cur.next hby) | ((with_reducible show wpList _ _ _ (⟨some 154, .load 73 (.tmp 16), _, _, _, _⟩ :: _) _ _); refine wpList_load_blkW (by rfl) 73 _ rfl _ rfl (cur.blk 0 rfl) Tryz.row73 Tryz.size73 ?_) | ((with_reducible show wpList _ _ _ (⟨some 156, .load 73 (.tmp 11), _, _, _, _⟩ :: _) _ _); refine wpList_load_blkW (by rfl) 73 _ rfl _ rfl (cur.blk 2 rfl) Tryz.row73 Tryz.size73 ?_) | (go_at_call 36; refine (all_any _ _ _ (picL M) (picL L) dn false hq3 hpv HB.out HLL.out).mono ?_; rintro e wz ⟨rfl, hbz⟩))
          go_ret
          exact ⟨rfl, cur.k.below.trans (hbz.mono cur.k.size)⟩
        · have e1 : decide ((q : Int) < 2) = false := by simp; omega
          have e2 : (dn : Int) < (l : Int) := by omega
          clear hd2 hlm hqb hdn hq2
          go_wp2_with (first | (go_at_call 37; refine (fault_any 1 _).mono ?_; rintro e wy ⟨rfl, hby⟩; replace hpv := hpv.below hby; replace hq3 := hq3.below hby; replace cur := cur.next hby) | ((with_reducible show wpList _ _ _ (⟨_, .load 22 (.tmp 147), _, _, _, _⟩ :: _) _ _); refine wpList_load1 (by rfl) 22 _ rfl b11 7 rfl (.slice p1 l c1) (Tryz.isAgg22' _) ((cur.blk 2 rfl).cell 7) ?_) | ((with_reducible show wpList _ _ _ (⟨some 154, .load 73 (.tmp 16), _, _, _, _⟩ :: _) _ _); refine wpList_load_blkW (by rfl) 73 _ rfl _ rfl (cur.blk 0 rfl) Tryz.row73 Tryz.size73 ?_) | ((with_reducible show wpList _ _ _ (⟨some 156, .load 73 (.tmp 11), _, _, _, _⟩ :: _) _ _); refine wpList_load_blkW (by rfl) 73 _ rfl _ rfl (cur.blk 2 rfl) Tryz.row73 Tryz.size73 ?_) | (go_at_call 36; refine (all_any _ _ _ (picL M) (picL L) dn false hq3 hpv HB.out HLL.out).mono ?_; rintro e wz ⟨rfl, hbz⟩))
          go_ret
          exact ⟨rfl, cur.k.below.trans (hbz.mono cur.k.size)⟩
      · go_upto_region 21 with (first | (go_at_call 32; refine (refuel_any cur.s _ (by omega)).mono ?_; rintro e w7 ⟨rfl, s9, k9⟩; replace hpv := hpv.keeps k9; replace cur := cur.go s9 k9; clear s9 k9) | ((first | go_at_call 33 | go_at_call 34); refine (HC.out _ _ cur.s).mono ?_; rintro e w8 ⟨tp8, rfl, s9, k9⟩; replace hpv := hpv.keeps k9; replace cur := cur.go s9 k9; clear s9 k9) | (go_at_call 35; refine (shape_any cur.s kO_ok).mono ?_; rintro e w9 ⟨pv2, rfl, hp2, s9, k9⟩; have ho2 := hp2.one; clear hp2; replace hpv := hpv.keeps k9; replace cur := cur.go s9 k9; clear s9 k9) | (go_at_call 31; refine (picture_any cur.s (by omega) HG.out.2.2.2.2.1).mono ?_; rintro e w12 ⟨pv3, tp9, rfl, hq3, s9, k9⟩; replace hpv := hpv.keeps k9; replace cur := cur.go s9 k9; clear s9 k9; obtain ⟨p3, c3, rfl⟩ := hq3.len HPM.out) | ((with_reducible show wpList _ _ _ (⟨some 14, .alloc 73, _, _, _, _⟩ :: _) _ _); refine wpList_alloc_blk rfl 73 rfl sZero zero73 ?_; intro w10 hB hL hs; have hle14 := cur.k.size; replace hpv := hpv.below hL; replace cur := cur.push hL hB (Nat.le_refl _) rfl; clear hB hL hs) | ((with_reducible show wpList _ _ _ (⟨_, .store 73 (.tmp 14) _, _, _, _, _⟩ :: _) _ _); refine wpList_store_blk rfl 73 _ _ rfl _ (sArr kO.cls kO.proto x1 pv2) _ 73 rfl rfl (cur.blk 0 rfl) Tryz.size73 rfl (sArr_one ho2) ?_; intro w11 hB hO; replace hpv := hpv.free (cur.blk 0 rfl) hO (by decide); replace cur := cur.set 0 rfl hO hB hle14; clear hB hO) | ((with_reducible show wpList _ _ _ (⟨some 16, .alloc 73, _, _, _, _⟩ :: _) _ _); refine wpList_alloc_blk rfl 73 rfl sZero zero73 ?_; intro w13 hB hL hs; have hle16 := cur.k.size; replace hpv := hpv.below hL; replace hq3 := hq3.below hL; replace cur := cur.push hL hB (Nat.le_refl _) rfl; clear hB hL hs) | ((with_reducible show wpList _ _ _ (⟨_, .store 73 (.tmp 16) _, _, _, _, _⟩ :: _) _ _); refine wpList_store_blk rfl 73 _ _ rfl _ (sArr 0 vN false (.slice p3 l c3)) _ 73 rfl rfl (cur.blk 0 rfl) Tryz.size73 rfl (sArr_one rfl) ?_; intro w14 hB hO; replace hpv := hpv.free (cur.blk 0 rfl) hO (by decide); replace hq3 := hq3.free (cur.blk 0 rfl) hO (by decide); replace cur := cur.set 0 rfl hO hB hle16; clear hB hO))
        obtain ⟨b14, hb14⟩ : ∃ x, w9.heap.size = x := ⟨_, rfl⟩
        obtain ⟨b16, hb16⟩ : ∃ x, w12.heap.size = x := ⟨_, rfl⟩
        rw [hb14] at cur hle14 ⊢
        rw [hb16] at cur hle16 ⊢
        clear hb14 hb16
        go_cut [108] (fun s wx => s = .bool false ∧ w14 = wx)
        case first =>
          by_cases hq0 : q = 0
          · have hx1 : x1 = true := by rw [HG.out.1, if_pos hq0]
            subst hx1
            have hq1 : ((q : Int) == 0) = true := by simp; omega
            clear hq0
            go_wp2_with (first | ((with_reducible show wpList _ _ _ (⟨_, .load 22 (.tmp 94), _, _, _, _⟩ :: _) _ _); refine wpList_load1 (by rfl) 22 _ rfl b16 7 rfl (.slice p3 l c3) (Tryz.isAgg22' _) ((cur.blk 0 rfl).cell 7) ?_) | ((with_reducible show wpList _ _ _ (⟨_, .load 22 (.tmp 97), _, _, _, _⟩ :: _) _ _); refine wpList_load1 (by rfl) 22 _ rfl b11 7 rfl (.slice p1 l c1) (Tryz.isAgg22' _) ((cur.blk 2 rfl).cell 7) ?_) | ((with_reducible show wpList _ _ _ (⟨_, .load 4 (.tmp 103), _, _, _, _⟩ :: _) _ _); refine wpList_load1 (by rfl) 4 _ rfl b14 6 rfl (.bool true) (Tryz.isAgg4 _) ((cur.blk 1 rfl).cell 6) ?_))
            go_meet
            exact ⟨rfl, rfl⟩
          · have hx1 : x1 = false := by rw [HG.out.1, if_neg hq0]
            subst hx1
            have hq1 : ((q : Int) == 0) = false := by simp; omega
            clear hq0
            go_wp2_with (first | ((with_reducible show wpList _ _ _ (⟨_, .load 22 (.tmp 94), _, _, _, _⟩ :: _) _ _); refine wpList_load1 (by rfl) 22 _ rfl b16 7 rfl (.slice p3 l c3) (Tryz.isAgg22' _) ((cur.blk 0 rfl).cell 7) ?_) | ((with_reducible show wpList _ _ _ (⟨_, .load 22 (.tmp 97), _, _, _, _⟩ :: _) _ _); refine wpList_load1 (by rfl) 22 _ rfl b11 7 rfl (.slice p1 l c1) (Tryz.isAgg22' _) ((cur.blk 2 rfl).cell 7) ?_) | ((with_reducible show wpList _ _ _ (⟨_, .load 4 (.tmp 103), _, _, _, _⟩ :: _) _ _); refine wpList_load1 (by rfl) 4 _ rfl b14 6 rfl (.bool false) (Tryz.isAgg4 _) ((cur.blk 1 rfl).cell 6) ?_))
            go_meet
            exact ⟨rfl, rfl⟩
        case rest => as_aux_lemma =>
        obtain ⟨rfl, rfl⟩ := hcut
        go_upto_region 26 with fail
        obtain ⟨dn, hdn⟩ : ∃ dn, doneN true q = dn := ⟨_, rfl⟩
        go_cut [18] (fun s wx => s = .int .i64 dn ∧ w14 = wx)
        case first =>
          have hqb := HQ.out.1
          unfold doneN cost at hdn
          simp only [Bool.false_eq_true, if_false, if_true] at hdn
          have v1 : IntKind.i64.wrap (-2) = -2 := by decide
          have v2 : IntKind.i64.wrap (-1) = -1 := by decide
          by_cases hq2 : q < 2
          · obtain rfl : dn = 0 := by omega
            by_cases hq0 : q = 0
            · have hq1 : (q : Int) = 0 := by omega
              have hq3 : (0 : Int) - 2 = -2 := by omega
              clear hq2 hq0 hqb hdn
              go_wp2_with fail
              go_meet
              exact ⟨rfl, rfl⟩
            · have hq1 : (q : Int) = 1 := by omega
              have hq3 : (1 : Int) - 2 = -1 := by omega
              clear hq2 hq0 hqb hdn
              go_wp2_with fail
              go_meet
              exact ⟨rfl, rfl⟩
          · obtain ⟨q2, hq3⟩ : ∃ q2, q = q2 + 2 := ⟨q - 2, by omega⟩
            have a1 : (q : Int) - 2 = (q2 : Int) := by omega
            have a2 := wrap_nat q2 (by omega)
            have a3 : Int.tdiv (q2 : Int) 2 = (dn : Int) := by rw [← hdn, hq3, Nat.add_sub_cancel]; rfl
            have a4 := wrap_nat dn (by omega)
            have a5 : (0 : Int) ≤ (dn : Int) := by omega
            clear hq2 hq3 hqb hdn
            go_wp2_with fail
            go_meet
            exact ⟨rfl, rfl⟩
        case rest => as_aux_lemma =>
        obtain ⟨rfl, rfl⟩ := hcut
        have hlm := HG.out.2.2.2.2.2
        have hqb := HQ.out
        have hd2 := HG.out.2.2.2.1 (by simp)
        have HB := Lib.hid (show Begun true dn (picL M) (picL L) by rw [← hdn]; exact HG.out.2.1)
        rw [hdn, hlm.1] at hd2
        have HLL := Lib.hid (show (picL L).length < 1000000 by rw [picL_length, hlm.1]; omega)
        have hfd := field83 1
        by_cases hq2 : q < 2
        · have e1 : (q : Int) < 2 := by omega
          clear hd2 hlm hqb hdn hq2
          go_wp2_with (first | (go_at_call 37; refine (fault_any 1 _).mono ?_; rintro e wy ⟨rfl, hby⟩; replace hpv := hpv.below hby; replace hq3 := hq3.below hby; replace cur := cur.next hby) | ((with_reducible show wpList _ _ _ (⟨some 154, .load 73 (.tmp 16), _, _, _, _⟩ :: _) _ _); refine wpList_load_blkW (by rfl) 73 _ rfl _ rfl (cur.blk 0 rfl) Tryz.row73 Tryz.size73 ?_) | ((with_reducible show wpList _ _ _ (⟨some 156, .load 73 (.tmp 11), _, _, _, _⟩ :: _) _ _); refine wpList_load_blkW (by rfl) 73 _ rfl _ rfl (cur.blk 2 rfl) Tryz.row73 Tryz.size73 ?_) | (go_at_call 36; refine (all_any _ _ _ (picL M) (picL L) dn true hq3 hpv HB.out HLL.out).mono ?_; rintro e wz ⟨rfl, hbz⟩))
          go_ret
          exact ⟨rfl, cur.k.below.trans (hbz.mono cur.k.size)⟩
        · have e1 : decide ((q : Int) < 2) = false := by simp; omega
          have e2 : (dn : Int) < (l : Int) := by omega
          clear hd2 hlm hqb hdn hq2
          go_wp2_with (first | (go_at_call 37; refine (fault_any 1 _).mono ?_; rintro e wy ⟨rfl, hby⟩; replace hpv := hpv.below hby; replace hq3 := hq3.below hby; replace cur := cur.next hby) | ((with_reducible show wpList _ _ _ (⟨_, .load 22 (.tmp 147), _, _, _, _⟩ :: _) _ _); refine wpList_load1 (by rfl) 22 _ rfl b11 7 rfl (.slice p1 l c1) (Tryz.isAgg22' _) ((cur.blk 2 rfl).cell 7) ?_) | ((with_reducible show wpList _ _ _ (⟨some 154, .load 73 (.tmp 16), _, _, _, _⟩ :: _) _ _); refine wpList_load_blkW (by rfl) 73 _ rfl _ rfl (cur.blk 0 rfl) Tryz.row73 Tryz.size73 ?_) | ((with_reducible show wpList _ _ _ (⟨some 156, .load 73 (.tmp 11), _, _, _, _⟩ :: _) _ _); refine wpList_load_blkW (by rfl) 73 _ rfl _ rfl (cur.blk 2 rfl) Tryz.row73 Tryz.size73 ?_) | (go_at_call 36; refine (all_any _ _ _ (picL M) (picL L) dn true hq3 hpv HB.out HLL.out).mono ?_; rintro e wz ⟨rfl, hbz⟩))
          go_ret
          exact ⟨rfl, cur.k.below.trans (hbz.mono cur.k.size)⟩
    · cases fz
      · go_upto_region 21 with (first | (go_at_call 32; refine (refuel_any cur.s _ (by omega)).mono ?_; rintro e w7 ⟨rfl, s9, k9⟩; replace hpv := hpv.keeps k9; replace cur := cur.go s9 k9; clear s9 k9) | ((first | go_at_call 33 | go_at_call 34); refine (HC.out _ _ cur.s).mono ?_; rintro e w8 ⟨tp8, rfl, s9, k9⟩; replace hpv := hpv.keeps k9; replace cur := cur.go s9 k9; clear s9 k9) | (go_at_call 35; refine (shape_any cur.s kO_ok).mono ?_; rintro e w9 ⟨pv2, rfl, hp2, s9, k9⟩; have ho2 := hp2.one; clear hp2; replace hpv := hpv.keeps k9; replace cur := cur.go s9 k9; clear s9 k9) | (go_at_call 31; refine (picture_any cur.s (by omega) HG.out.2.2.2.2.1).mono ?_; rintro e w12 ⟨pv3, tp9, rfl, hq3, s9, k9⟩; replace hpv := hpv.keeps k9; replace cur := cur.go s9 k9; clear s9 k9; obtain ⟨p3, c3, rfl⟩ := hq3.len HPM.out) | ((with_reducible show wpList _ _ _ (⟨some 14, .alloc 73, _, _, _, _⟩ :: _) _ _); refine wpList_alloc_blk rfl 73 rfl sZero zero73 ?_; intro w10 hB hL hs; have hle14 := cur.k.size; replace hpv := hpv.below hL; replace cur := cur.push hL hB (Nat.le_refl _) rfl; clear hB hL hs) | ((with_reducible show wpList _ _ _ (⟨_, .store 73 (.tmp 14) _, _, _, _, _⟩ :: _) _ _); refine wpList_store_blk rfl 73 _ _ rfl _ (sArr kO.cls kO.proto x1 pv2) _ 73 rfl rfl (cur.blk 0 rfl) Tryz.size73 rfl (sArr_one ho2) ?_; intro w11 hB hO; replace hpv := hpv.free (cur.blk 0 rfl) hO (by decide); replace cur := cur.set 0 rfl hO hB hle14; clear hB hO) | ((with_reducible show wpList _ _ _ (⟨some 16, .alloc 73, _, _, _, _⟩ :: _) _ _); refine wpList_alloc_blk rfl 73 rfl sZero zero73 ?_; intro w13 hB hL hs; have hle16 := cur.k.size; replace hpv := hpv.below hL; replace hq3 := hq3.below hL; replace cur := cur.push hL hB (Nat.le_refl _) rfl; clear hB hL hs) | ((with_reducible show wpList _ _ _ (⟨_, .store 73 (.tmp 16) _, _, _, _, _⟩ :: _) _ _); refine wpList_store_blk rfl 73 _ _ rfl _ (sArr 0 vN false (.slice p3 l c3)) _ 73 rfl rfl (cur.blk 0 rfl) Tryz.size73 rfl (sArr_one rfl) ?_; intro w14 hB hO; replace hpv := hpv.free (cur.blk 0 rfl) hO (by decide); replace hq3 := hq3.free (cur.blk 0 rfl) hO (by decide); replace cur := cur.set 0 rfl hO hB hle16; clear hB hO))
        obtain ⟨b14, hb14⟩ : ∃ x, w9.heap.size = x := ⟨_, rfl⟩
        obtain ⟨b16, hb16⟩ : ∃ x, w12.heap.size = x := ⟨_, rfl⟩
        rw [hb14] at cur hle14 ⊢
        rw [hb16] at cur hle16 ⊢
        clear hb14 hb16
        go_cut [108] (fun s wx => s = .bool false ∧ w14 = wx)
        case first =>
          by_cases hq0 : q = 0
          · have hx1 : x1 = true := by rw [HG.out.1, if_pos hq0]
            subst hx1
            have hq1 : ((q : Int) == 0) = true := by simp; omega
            clear hq0
            go_wp2_with (first | ((with_reducible show wpList _ _ _ (⟨_, .load 22 (.tmp 94), _, _, _, _⟩ :: _) _ _); refine wpList_load1 (by rfl) 22 _ rfl b16 7 rfl (.slice p3 l c3) (Tryz.isAgg22' _) ((cur.blk 0 rfl).cell 7) ?_) | ((with_reducible show wpList _ _ _ (⟨_, .load 22 (.tmp 97), _, _, _, _⟩ :: _) _ _); refine wpList_load1 (by rfl) 22 _ rfl b11 7 rfl (.slice p1 l c1) (Tryz.isAgg22' _) ((cur.blk 2 rfl).cell 7) ?_) | ((with_reducible show wpList _ _ _ (⟨_, .load 4 (.tmp 103), _, _, _, _⟩ :: _) _ _); refine wpList_load1 (by rfl) 4 _ rfl b14 6 rfl (.bool true) (Tryz.isAgg4 _) ((cur.blk 1 rfl).cell 6) ?_))
            go_meet
            exact ⟨rfl, rfl⟩
          · have hx1 : x1 = false := by rw [HG.out.1, if_neg hq0]
            subst hx1
            have hq1 : ((q : Int) == 0) = false := by simp; omega
            clear hq0
            go_wp2_with (first | ((with_reducible show wpList _ _ _ (⟨_, .load 22 (.tmp 94), _, _, _, _⟩ :: _) _ _); refine wpList_load1 (by rfl) 22 _ rfl b16 7 rfl (.slice p3 l c3) (Tryz.isAgg22' _) ((cur.blk 0 rfl).cell 7) ?_) | ((with_reducible show wpList _ _ _ (⟨_, .load 22 (.tmp 97), _, _, _, _⟩ :: _) _ _); refine wpList_load1 (by rfl) 22 _ rfl b11 7 rfl (.slice p1 l c1) (Tryz.isAgg22' _) ((cur.blk 2 rfl).cell 7) ?_) | ((with_reducible show wpList _ _ _ (⟨_, .load 4 (.tmp 103), _, _, _, _⟩ :: _) _ _); refine wpList_load1 (by rfl) 4 _ rfl b14 6 rfl (.bool false) (Tryz.isAgg4 _) ((cur.blk 1 rfl).cell 6) ?_))
            go_meet
            exact ⟨rfl, rfl⟩
        case rest => as_aux_lemma =>
        obtain ⟨rfl, rfl⟩ := hcut
        go_upto_region 26 with fail
        obtain ⟨dn, hdn⟩ : ∃ dn, doneN false q = dn := ⟨_, rfl⟩
        go_cut [18] (fun s wx => s = .int .i64 dn ∧ w14 = wx)
        case first =>
          have hqb := HQ.out.1
          unfold doneN cost at hdn
          simp only [Bool.false_eq_true, if_false, if_true] at hdn
          have v1 : IntKind.i64.wrap (-2) = -2 := by decide
          have v2 : IntKind.i64.wrap (-1) = -1 := by decide
          by_cases hq2 : q < 2
          · obtain rfl : dn = 0 := by omega
            by_cases hq0 : q = 0
            · have hq1 : (q : Int) = 0 := by omega
              have hq3 : (0 : Int) - 2 = -2 := by omega
              clear hq2 hq0 hqb hdn
              go_wp2_with fail
              go_meet
              exact ⟨rfl, rfl⟩
            · have hq1 : (q : Int) = 1 := by omega
              have hq3 : (1 : Int) - 2 = -1 := by omega
              clear hq2 hq0 hqb hdn
              go_wp2_with fail
              go_meet
              exact ⟨rfl, rfl⟩
          · obtain ⟨q2, hq3⟩ : ∃ q2, q = q2 + 2 := ⟨q - 2, by omega⟩
            have a1 : (q : Int) - 2 = (q2 : Int) := by omega
            have a2 := wrap_nat q2 (by omega)
            have a3 : Int.tdiv (q2 : Int) 1 = (dn : Int) := by rw [Int.tdiv_one]; omega
            have a4 := wrap_nat dn (by omega)
            have a5 : (0 : Int) ≤ (dn : Int) := by omega
            clear hq2 hq3 hqb hdn
            go_wp2_with fail
            go_meet
            exact ⟨rfl, rfl⟩
        case rest => as_aux_lemma =>
        obtain ⟨rfl, rfl⟩ := hcut
        have hlm := HG.out.2.2.2.2.2
        have hqb := HQ.out
        have hd2 := HG.out.2.2.1 (by simp)
        rw [hdn, hlm.1] at hd2
        have e1 : (l : Int) ≤ (dn : Int) := by omega
        have HB := Lib.hid (begun_all false (m := l) HG.out.2.1 (by rw [picL_length, hlm.1, hdn]; exact hd2.1) (by rw [picL_length, hlm.1]; exact Nat.le_refl _))
        have HLL := Lib.hid (show (picL L).length < 1000000 by rw [picL_length, hlm.1]; omega)
        clear hd2 hlm hqb hdn
        go_wp2_with (first | ((with_reducible show wpList _ _ _ (⟨_, .load 22 (.tmp 120), _, _, _, _⟩ :: _) _ _); refine wpList_load1 (by rfl) 22 _ rfl b11 7 rfl (.slice p1 l c1) (Tryz.isAgg22' _) ((cur.blk 2 rfl).cell 7) ?_) | ((with_reducible show wpList _ _ _ (⟨some 126, .load 73 (.tmp 16), _, _, _, _⟩ :: _) _ _); refine wpList_load_blkW (by rfl) 73 _ rfl _ rfl (cur.blk 0 rfl) Tryz.row73 Tryz.size73 ?_) | ((with_reducible show wpList _ _ _ (⟨_, .load 22 (.tmp 127), _, _, _, _⟩ :: _) _ _); refine wpList_load1 (by rfl) 22 _ rfl b11 7 rfl (.slice p1 l c1) (Tryz.isAgg22' _) ((cur.blk 2 rfl).cell 7) ?_) | ((with_reducible show wpList _ _ _ (⟨some 130, .load 73 (.tmp 11), _, _, _, _⟩ :: _) _ _); refine wpList_load_blkW (by rfl) 73 _ rfl _ rfl (cur.blk 2 rfl) Tryz.row73 Tryz.size73 ?_) | (go_at_call 36; refine (all_any _ _ _ (picL M) (picL L) l false hq3 hpv HB.out HLL.out).mono ?_; rintro e wz ⟨rfl, hbz⟩))
        go_ret
        exact ⟨rfl, cur.k.below.trans (hbz.mono cur.k.size)⟩
      · go_upto_region 21 with (first | (go_at_call 32; refine (refuel_any cur.s _ (by omega)).mono ?_; rintro e w7 ⟨rfl, s9, k9⟩; replace hpv := hpv.keeps k9; replace cur := cur.go s9 k9; clear s9 k9) | ((first | go_at_call 33 | go_at_call 34); refine (HC.out _ _ cur.s).mono ?_; rintro e w8 ⟨tp8, rfl, s9, k9⟩; replace hpv := hpv.keeps k9; replace cur := cur.go s9 k9; clear s9 k9) | (go_at_call 35; refine (shape_any cur.s kO_ok).mono ?_; rintro e w9 ⟨pv2, rfl, hp2, s9, k9⟩; have ho2 := hp2.one; clear hp2; replace hpv := hpv.keeps k9; replace cur := cur.go s9 k9; clear s9 k9) | (go_at_call 31; refine (picture_any cur.s (by omega) HG.out.2.2.2.2.1).mono ?_; rintro e w12 ⟨pv3, tp9, rfl, hq3, s9, k9⟩; replace hpv := hpv.keeps k9; replace cur := cur.go s9 k9; clear s9 k9; obtain ⟨p3, c3, rfl⟩ := hq3.len HPM.out) | ((with_reducible show wpList _ _ _ (⟨some 14, .alloc 73, _, _, _, _⟩ :: _) _ _); refine wpList_alloc_blk rfl 73 rfl sZero zero73 ?_; intro w10 hB hL hs; have hle14 := cur.k.size; replace hpv := hpv.below hL; replace cur := cur.push hL hB (Nat.le_refl _) rfl; clear hB hL hs) | ((with_reducible show wpList _ _ _ (⟨_, .store 73 (.tmp 14) _, _, _, _, _⟩ :: _) _ _); refine wpList_store_blk rfl 73 _ _ rfl _ (sArr kO.cls kO.proto x1 pv2) _ 73 rfl rfl (cur.blk 0 rfl) Tryz.size73 rfl (sArr_one ho2) ?_; intro w11 hB hO; replace hpv := hpv.free (cur.blk 0 rfl) hO (by decide); replace cur := cur.set 0 rfl hO hB hle14; clear hB hO) | ((with_reducible show wpList _ _ _ (⟨some 16, .alloc 73, _, _, _, _⟩ :: _) _ _); refine wpList_alloc_blk rfl 73 rfl sZero zero73 ?_; intro w13 hB hL hs; have hle16 := cur.k.size; replace hpv := hpv.below hL; replace hq3 := hq3.below hL; replace cur := cur.push hL hB (Nat.le_refl _) rfl; clear hB hL hs) | ((with_reducible show wpList _ _ _ (⟨_, .store 73 (.tmp 16) _, _, _, _, _⟩ :: _) _ _); refine wpList_store_blk rfl 73 _ _ rfl _ (sArr 0 vN false (.slice p3 l c3)) _ 73 rfl rfl (cur.blk 0 rfl) Tryz.size73 rfl (sArr_one rfl) ?_; intro w14 hB hO; replace hpv := hpv.free (cur.blk 0 rfl) hO (by decide); replace hq3 := hq3.free (cur.blk 0 rfl) hO (by decide); replace cur := cur.set 0 rfl hO hB hle16; clear hB hO))
        obtain ⟨b14, hb14⟩ : ∃ x, w9.heap.size = x := ⟨_, rfl⟩
        obtain ⟨b16, hb16⟩ : ∃ x, w12.heap.size = x := ⟨_, rfl⟩
        rw [hb14] at cur hle14 ⊢
        rw [hb16] at cur hle16 ⊢
        clear hb14 hb16
        go_cut [108] (fun s wx => s = .bool false ∧ w14 = wx)
        case first =>
          by_cases hq0 : q = 0
          · have hx1 : x1 = true := by rw [HG.out.1, if_pos hq0]
            subst hx1
            have hq1 : ((q : Int) == 0) = true := by simp; omega
            clear hq0
            go_wp2_with (first | ((with_reducible show wpList _ _ _ (⟨_, .load 22 (.tmp 94), _, _, _, _⟩ :: _) _ _); refine wpList_load1 (by rfl) 22 _ rfl b16 7 rfl (.slice p3 l c3) (Tryz.isAgg22' _) ((cur.blk 0 rfl).cell 7) ?_) | ((with_reducible show wpList _ _ _ (⟨_, .load 22 (.tmp 97), _, _, _, _⟩ :: _) _ _); refine wpList_load1 (by rfl) 22 _ rfl b11 7 rfl (.slice p1 l c1) (Tryz.isAgg22' _) ((cur.blk 2 rfl).cell 7) ?_) | ((with_reducible show wpList _ _ _ (⟨_, .load 4 (.tmp 103), _, _, _, _⟩ :: _) _ _); refine wpList_load1 (by rfl) 4 _ rfl b14 6 rfl (.bool true) (Tryz.isAgg4 _) ((cur.blk 1 rfl).cell 6) ?_))
            go_meet
            exact ⟨rfl, rfl⟩
          · have hx1 : x1 = false := by rw [HG.out.1, if_neg hq0]
            subst hx1
            have hq1 : ((q : Int) == 0) = false := by simp; omega
            clear hq0
            go_wp2_with (first | ((with_reducible show wpList _ _ _ (⟨_, .load 22 (.tmp 94), _, _, _, _⟩ :: _) _ _); refine wpList_load1 (by rfl) 22 _ rfl b16 7 rfl (.slice p3 l c3) (Tryz.isAgg22' _) ((cur.blk 0 rfl).cell 7) ?_) | ((with_reducible show wpList _ _ _ (⟨_, .load 22 (.tmp 97), _, _, _, _⟩ :: _) _ _); refine wpList_load1 (by rfl) 22 _ rfl b11 7 rfl (.slice p1 l c1) (Tryz.isAgg22' _) ((cur.blk 2 rfl).cell 7) ?_) | ((with_reducible show wpList _ _ _ (⟨_, .load 4 (.tmp 103), _, _, _, _⟩ :: _) _ _); refine wpList_load1 (by rfl) 4 _ rfl b14 6 rfl (.bool false) (Tryz.isAgg4 _) ((cur.blk 1 rfl).cell 6) ?_))
            go_meet
            exact ⟨rfl, rfl⟩
        case rest => as_aux_lemma =>
        obtain ⟨rfl, rfl⟩ := hcut
        go_upto_region 26 with fail
        obtain ⟨dn, hdn⟩ : ∃ dn, doneN true q = dn := ⟨_, rfl⟩
        go_cut [18] (fun s wx => s = .int .i64 dn ∧ w14 = wx)
        case first =>
          have hqb := HQ.out.1
          unfold doneN cost at hdn
          simp only [Bool.false_eq_true, if_false, if_true] at hdn
          have v1 : IntKind.i64.wrap (-2) = -2 := by decide
          have v2 : IntKind.i64.wrap (-1) = -1 := by decide
          by_cases hq2 : q < 2
          · obtain rfl : dn = 0 := by omega
            by_cases hq0 : q = 0
            · have hq1 : (q : Int) = 0 := by omega
              have hq3 : (0 : Int) - 2 = -2 := by omega
              clear hq2 hq0 hqb hdn
              go_wp2_with fail
              go_meet
              exact ⟨rfl, rfl⟩
            · have hq1 : (q : Int) = 1 := by omega
              have hq3 : (1 : Int) - 2 = -1 := by omega
              clear hq2 hq0 hqb hdn
              go_wp2_with fail
              go_meet
              exact ⟨rfl, rfl⟩
          · obtain ⟨q2, hq3⟩ : ∃ q2, q = q2 + 2 := ⟨q - 2, by omega⟩
            have a1 : (q : Int) - 2 = (q2 : Int) := by omega
            have a2 := wrap_nat q2 (by omega)
            have a3 : Int.tdiv (q2 : Int) 2 = (dn : Int) := by rw [← hdn, hq3, Nat.add_sub_cancel]; rfl
            have a4 := wrap_nat dn (by omega)
            have a5 : (0 : Int) ≤ (dn : Int) := by omega
            clear hq2 hq3 hqb hdn
            go_wp2_with fail
            go_meet
            exact ⟨rfl, rfl⟩
        case rest => as_aux_lemma =>
        obtain ⟨rfl, rfl⟩ := hcut
        have hlm := HG.out.2.2.2.2.2
        have hqb := HQ.out
        have hd2 := HG.out.2.2.1 (by simp)
        rw [hdn, hlm.1] at hd2
        have e1 : (l : Int) ≤ (dn : Int) := by omega
        have HB := Lib.hid (begun_all true (m := l) HG.out.2.1 (by rw [picL_length, hlm.1, hdn]; exact hd2.1) (by rw [picL_length, hlm.1]; exact Nat.le_refl _))
        have HLL := Lib.hid (show (picL L).length < 1000000 by rw [picL_length, hlm.1]; omega)
        clear hd2 hlm hqb hdn
        go_wp2_with (first | ((with_reducible show wpList _ _ _ (⟨_, .load 22 (.tmp 120), _, _, _, _⟩ :: _) _ _); refine wpList_load1 (by rfl) 22 _ rfl b11 7 rfl (.slice p1 l c1) (Tryz.isAgg22' _) ((cur.blk 2 rfl).cell 7) ?_) | ((with_reducible show wpList _ _ _ (⟨some 126, .load 73 (.tmp 16), _, _, _, _⟩ :: _) _ _); refine wpList_load_blkW (by rfl) 73 _ rfl _ rfl (cur.blk 0 rfl) Tryz.row73 Tryz.size73 ?_) | ((with_reducible show wpList _ _ _ (⟨_, .load 22 (.tmp 127), _, _, _, _⟩ :: _) _ _); refine wpList_load1 (by rfl) 22 _ rfl b11 7 rfl (.slice p1 l c1) (Tryz.isAgg22' _) ((cur.blk 2 rfl).cell 7) ?_) | ((with_reducible show wpList _ _ _ (⟨some 130, .load 73 (.tmp 11), _, _, _, _⟩ :: _) _ _); refine wpList_load_blkW (by rfl) 73 _ rfl _ rfl (cur.blk 2 rfl) Tryz.row73 Tryz.size73 ?_) | (go_at_call 36; refine (all_any _ _ _ (picL M) (picL L) l true hq3 hpv HB.out HLL.out).mono ?_; rintro e wz ⟨rfl, hbz⟩))
        go_ret
        exact ⟨rfl, cur.k.below.trans (hbz.mono cur.k.size)⟩

end Go.Proofs.YtoalboilghgalaaGreatDoor
