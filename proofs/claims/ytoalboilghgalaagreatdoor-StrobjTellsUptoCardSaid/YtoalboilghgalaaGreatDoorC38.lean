/- Lemmas for this claim, in parts: Wrongv. -/
import Derived.Test.YtoalboilghgalaaGreatDoorC19
import Derived.Deep.DeepCutAuto
set_option maxRecDepth 100000
set_option maxHeartbeats 4000000
set_option linter.unusedVariables false
set_option linter.unusedSimpArgs false
/- The heap: wrong, of a call with a key, or none, and values. -/
namespace Go.Proofs.YtoalboilghgalaaGreatDoor
open Go.RowKit
open Go.Proofs.Dc (V Ds Ky)
attribute [local go_sem] run_store_float

/-- values lie in a row -/
def ValsAt (W : World) (vb : Nat) (vs : List V) : Prop := ∃ C, Blk W vb C 36 ∧ ∀ i v, vs[i]? = some v → ∀ j, j < 5 → C[i * 5 + j]? = (vCells v)[j]?
theorem ValsAt.next {W W' : World} {vb : Nat} {vs : List V} (h : ValsAt W vb vs) (hb : Below W.heap.size W W') : ValsAt W' vb vs := by
  obtain ⟨C, h1, h2⟩ := h
  exact ⟨C, h1.next hb, h2⟩
theorem ValsAt.range {W : World} {vb : Nat} {vs : List V} (h : ValsAt W vb vs) {i : Nat} {v : V} (hv : vs[i]? = some v) : W.rangeAt vb (i * 5) [.int .i64 v.kind, .bool v.bool, .float .f64 v.num, .string v.str, .int .i64 v.id] := by
  obtain ⟨C, h1, h2⟩ := h
  intro j u hu
  have hj : j < 5 := (List.getElem?_eq_some_iff.1 hu).1
  rw [h1.cell, h2 i v hv j hj]
  exact hu
/-- what wrong says of values -/
def wrongV (vs : List V) : Int := if vs.all (fun v => Dc.good uvalid v) then (if vs.any lostV then 4 else 0) else 5
theorem wrongv_none {n0 : Nat} {w : World} {hb : Nat} {ov : Value} {ob : Nat} {tp : Option Addr} {cap fuel deep : Int} {kd : Kd} {ext : Bool} {L : List (Ky × Ds)} (s : StX n0 w hb ov ob tp cap fuel deep kd ext L) (vs : List V) (vb n cp : Nat) (hn : n = vs.length) (hn9 : n ≤ 1000) (hV : ValsAt w vb vs) (hnu : ∀ v ∈ vs, v.num < 2 ^ 64) : Calls Tryz.prog 55 #[.pointer (some ⟨hb, 0, none⟩), .int .i64 1, .agg #[.pointer none, .pointer none, (.slice (some ⟨vb, 0, none⟩) n cp)]] w fun e w' => e = .returned (.int .i64 (wrongV vs)) ∧ Below w.heap.size w w' := by
  have S0 := Lib.hid s
  have HN := Lib.hid hn
  clear hn
  have HVV := Lib.hid hV
  have HNU := Lib.hid hnu
  go_enter Tryz.func55, Tryz.ntmps55
  go_wp2_with (first | ((with_reducible show wpList _ _ _ (⟨_, .box 118 _, _, _, _, _⟩ :: _) _ _); refine wpList_box_blk rfl 118 _ rfl (aArr none none (.slice (some ⟨vb, 0, none⟩) n cp)) rfl ?_; intro w0 hA hL hs; have hcA := hA.cellA; have s0 := s.below hL) | (go_at_call 83; refine (has_one s0).mono ?_; rintro e w' ⟨rfl, rfl⟩))
  have HAA := Lib.hid hA
  have HLL := Lib.hid hL
  go_loopw [42] (fun i wr => ∃ k : Nat, i = .int .i64 k ∧ k ≤ n ∧ (∀ j v, j < k → vs[j]? = some v → Dc.good uvalid v = true) ∧ Below w.heap.size w wr ∧ Blk wr w.heap.size (aArr none none (.slice (some ⟨vb, 0, none⟩) n cp)) 118) (fun i wr => n - (intOf i).toNat)
  case atStart => exact ⟨0, rfl, Nat.zero_le _, fun j v h => absurd h (by omega), HLL.out, HAA.out⟩
  case round =>
    obtain ⟨k, rfl, hk, hgd, hb, hA2⟩ := hrel
    have HG := Lib.hid hgd
    have HB := Lib.hid hb
    have HA2 := Lib.hid hA2
    have hcA2 := hA2.cellA
    have hV := HVV.out.next hb
    clear hgd hb hA2
    by_cases hlt : k < n
    · obtain ⟨v, hv⟩ : ∃ v, vs[k]? = some v := ⟨_, List.getElem?_eq_getElem (by rw [← HN.out]; exact hlt)⟩
      have hlti : (k : Int) < n := by omega
      have hvn := HNU.out v (List.mem_of_getElem? hv)
      have HV := Lib.hid hv
      have cC := fun W (h : Below wr.heap.size wr W) => check_any v W (S0.out.tabs.below (HB.out.trans (h.mono HB.out.size))) hvn
      cases hgv : Dc.good uvalid v
      · simp only [hgv, Bool.false_eq_true, if_false] at cC
        have HGV := Lib.hid hgv
        clear hgv
        go_wp2_with (first | ((with_reducible show wpList _ _ _ (⟨some 45, .load 36 _, _, _, _, _⟩ :: _) _ _); refine wpList_load_mid rfl 36 _ rfl vb (k * 5) rfl [.int .i64 v.kind, .bool v.bool, .float .f64 v.num, .string v.str, .int .i64 v.id] _ (hV.range hv) Tryz.underlying36 rfl Tryz.size36 ?_) | ((with_reducible show wpList _ _ _ (⟨_, .alloc 36, _, _, _, _⟩ :: _) _ _); refine wpList_alloc_blk rfl 36 rfl (vArr Dc.v0) zero36 ?_; intro wq hq hLq hsq; clear hsq) | ((with_reducible show wpList _ _ _ (⟨_, .store 36 _ _, _, _, _, _⟩ :: _) _ _); refine wpList_store_blk rfl 36 _ _ rfl _ (vArr v) _ 36 rfl rfl hq Tryz.size36 rfl (vArr_one _) ?_; intro wt ht hOt; have hLt := below_only hLq hOt (by simp)) | ((with_reducible show wpList _ _ _ (⟨_, .load 36 _, _, _, _, _⟩ :: _) _ _); refine wpList_load_blk rfl 36 _ rfl _ rfl ht Tryz.row36 Tryz.size36 ?_) | (go_at_call 40; refine (cC _ hLt).mono ?_; rintro e wu ⟨rfl, hbu⟩; have hLu := more hLt hbu))
        go_ret
        refine ⟨?_, HB.out.trans (hLu.mono HB.out.size)⟩
        unfold wrongV
        rw [if_neg (by simp only [List.all_eq_true, Classical.not_forall]; exact ⟨v, List.mem_of_getElem? HV.out, by rw [HGV.out]; simp⟩)]
        rfl
      · simp only [hgv, if_true] at cC
        have HGV := Lib.hid hgv
        clear hgv
        go_wp2_with (first | ((with_reducible show wpList _ _ _ (⟨some 45, .load 36 _, _, _, _, _⟩ :: _) _ _); refine wpList_load_mid rfl 36 _ rfl vb (k * 5) rfl [.int .i64 v.kind, .bool v.bool, .float .f64 v.num, .string v.str, .int .i64 v.id] _ (hV.range hv) Tryz.underlying36 rfl Tryz.size36 ?_) | ((with_reducible show wpList _ _ _ (⟨_, .alloc 36, _, _, _, _⟩ :: _) _ _); refine wpList_alloc_blk rfl 36 rfl (vArr Dc.v0) zero36 ?_; intro wq hq hLq hsq; clear hsq) | ((with_reducible show wpList _ _ _ (⟨_, .store 36 _ _, _, _, _, _⟩ :: _) _ _); refine wpList_store_blk rfl 36 _ _ rfl _ (vArr v) _ 36 rfl rfl hq Tryz.size36 rfl (vArr_one _) ?_; intro wt ht hOt; have hLt := below_only hLq hOt (by simp)) | ((with_reducible show wpList _ _ _ (⟨_, .load 36 _, _, _, _, _⟩ :: _) _ _); refine wpList_load_blk rfl 36 _ rfl _ rfl ht Tryz.row36 Tryz.size36 ?_) | (go_at_call 40; refine (cC _ hLt).mono ?_; rintro e wu ⟨rfl, hbu⟩; have hLu := more hLt hbu))
        refine ⟨⟨k + 1, by simp, by omega, fun j u hj hu => ?_, HB.out.trans (hLu.mono HB.out.size), HA2.out.next hLu⟩, by simp [intOf]; omega⟩
        by_cases hjk : j = k
        · subst hjk
          rw [HV.out] at hu
          cases hu
          exact HGV.out
        · exact HG.out j u (by omega) hu
    · have hlti : ¬ (k : Int) < n := by omega
      have hall : vs.all (fun v => Dc.good uvalid v) = true := by
        rw [List.all_eq_true]
        intro v hv
        obtain ⟨j, hj⟩ := List.getElem?_of_mem hv
        have hjl := (List.getElem?_eq_some_iff.1 hj).1
        exact HG.out j v (by have := HN.out; omega) hj
      have HALL := Lib.hid hall
      clear HG hV hall
      go_wp2
      go_loopw [76] (fun i wr => ∃ m : Nat, i = .int .i64 m ∧ m ≤ n ∧ (∀ j v, j < m → vs[j]? = some v → lostV v = false) ∧ Below w.heap.size w wr ∧ Blk wr w.heap.size (aArr none none (.slice (some ⟨vb, 0, none⟩) n cp)) 118) (fun i wr => n - (intOf i).toNat)
      case atStart => exact ⟨0, rfl, Nat.zero_le _, fun j v h => absurd h (by omega), HB.out, HA2.out⟩
      case round =>
        obtain ⟨k, rfl, hk, hgd, hb, hA3⟩ := hrel
        have HG := Lib.hid hgd
        have HB := Lib.hid hb
        have HA3 := Lib.hid hA3
        have hcA2 := hA3.cellA
        have hV := HVV.out.next hb
        clear hgd hb hA3
        by_cases hlt : k < n
        · obtain ⟨v, hv⟩ : ∃ v, vs[k]? = some v := ⟨_, List.getElem?_eq_getElem (by rw [← HN.out]; exact hlt)⟩
          have hlti : (k : Int) < n := by omega
          have HV := Lib.hid hv
          have cC := fun W (h : Below wr.heap.size wr W) => lost_any (S0.out.below (HB.out.trans (h.mono HB.out.size))) v
          cases hgv : lostV v
          · simp only [hgv] at cC
            have HGV := Lib.hid hgv
            clear hgv
            go_wp2_with (first | ((with_reducible show wpList _ _ _ (⟨some 79, .load 36 _, _, _, _, _⟩ :: _) _ _); refine wpList_load_mid rfl 36 _ rfl vb (k * 5) rfl [.int .i64 v.kind, .bool v.bool, .float .f64 v.num, .string v.str, .int .i64 v.id] _ (hV.range hv) Tryz.underlying36 rfl Tryz.size36 ?_) | ((with_reducible show wpList _ _ _ (⟨_, .alloc 36, _, _, _, _⟩ :: _) _ _); refine wpList_alloc_blk rfl 36 rfl (vArr Dc.v0) zero36 ?_; intro wq hq hLq hsq; clear hsq) | ((with_reducible show wpList _ _ _ (⟨_, .store 36 _ _, _, _, _, _⟩ :: _) _ _); refine wpList_store_blk rfl 36 _ _ rfl _ (vArr v) _ 36 rfl rfl hq Tryz.size36 rfl (vArr_one _) ?_; intro wt ht hOt; have hLt := below_only hLq hOt (by simp)) | ((with_reducible show wpList _ _ _ (⟨_, .load 36 _, _, _, _, _⟩ :: _) _ _); refine wpList_load_blk rfl 36 _ rfl _ rfl ht Tryz.row36 Tryz.size36 ?_) | (go_at_call 92; refine (cC _ hLt).mono ?_; rintro e wu ⟨rfl, hbu⟩; have hLu := more hLt hbu))
            refine ⟨⟨k + 1, by simp, by omega, fun j u hj hu => ?_, HB.out.trans (hLu.mono HB.out.size), HA3.out.next hLu⟩, by simp [intOf]; omega⟩
            by_cases hjk : j = k
            · subst hjk
              rw [HV.out] at hu
              cases hu
              exact HGV.out
            · exact HG.out j u (by omega) hu
          · simp only [hgv] at cC
            have HGV := Lib.hid hgv
            clear hgv
            go_wp2_with (first | ((with_reducible show wpList _ _ _ (⟨some 79, .load 36 _, _, _, _, _⟩ :: _) _ _); refine wpList_load_mid rfl 36 _ rfl vb (k * 5) rfl [.int .i64 v.kind, .bool v.bool, .float .f64 v.num, .string v.str, .int .i64 v.id] _ (hV.range hv) Tryz.underlying36 rfl Tryz.size36 ?_) | ((with_reducible show wpList _ _ _ (⟨_, .alloc 36, _, _, _, _⟩ :: _) _ _); refine wpList_alloc_blk rfl 36 rfl (vArr Dc.v0) zero36 ?_; intro wq hq hLq hsq; clear hsq) | ((with_reducible show wpList _ _ _ (⟨_, .store 36 _ _, _, _, _, _⟩ :: _) _ _); refine wpList_store_blk rfl 36 _ _ rfl _ (vArr v) _ 36 rfl rfl hq Tryz.size36 rfl (vArr_one _) ?_; intro wt ht hOt; have hLt := below_only hLq hOt (by simp)) | ((with_reducible show wpList _ _ _ (⟨_, .load 36 _, _, _, _, _⟩ :: _) _ _); refine wpList_load_blk rfl 36 _ rfl _ rfl ht Tryz.row36 Tryz.size36 ?_) | (go_at_call 92; refine (cC _ hLt).mono ?_; rintro e wu ⟨rfl, hbu⟩; have hLu := more hLt hbu))
            go_ret
            refine ⟨?_, HB.out.trans (hLu.mono HB.out.size)⟩
            unfold wrongV
            rw [if_pos HALL.out, if_pos (List.any_eq_true.2 ⟨v, List.mem_of_getElem? HV.out, HGV.out⟩)]
            rfl
        · have hlti : ¬ (k : Int) < n := by omega
          have hlf : vs.any lostV = false := by
            rw [List.any_eq_false]
            intro v hv
            obtain ⟨j, hj⟩ := List.getElem?_of_mem hv
            have hjl := (List.getElem?_eq_some_iff.1 hj).1
            rw [HG.out j v (by have := HN.out; omega) hj]
            simp
          have HLF := Lib.hid hlf
          clear hlf hV
          go_wp2
          go_ret
          refine ⟨?_, HB.out⟩
          unfold wrongV
          rw [if_pos HALL.out, HLF.out]
          rfl

theorem wrongv_key {n0 : Nat} {w : World} {hb : Nat} {ov : Value} {ob : Nat} {tp : Option Addr} {cap fuel deep : Int} {kd : Kd} {ext : Bool} {L : List (Ky × Ds)} (s : StX n0 w hb ov ob tp cap fuel deep kd ext L) (vs : List V) (vb n cp : Nat) (hn : n = vs.length) (hn9 : n ≤ 1000) (hV : ValsAt w vb vs) (hnu : ∀ v ∈ vs, v.num < 2 ^ 64) (k0 : Ky) (kb : Nat) (hK : Blk w kb (kArr k0) 40) (hg0 : kgood k0 = true) : Calls Tryz.prog 55 #[.pointer (some ⟨hb, 0, none⟩), .int .i64 1, .agg #[.pointer (some ⟨kb, 0, none⟩), .pointer none, (.slice (some ⟨vb, 0, none⟩) n cp)]] w fun e w' => e = .returned (.int .i64 (wrongV vs)) ∧ Below w.heap.size w w' := by
  have cK := fun W (h : Below w.heap.size w W) => keycheck_any k0 W (s.tabs.below h)
  simp only [hg0, if_true] at cK
  clear hg0
  have S0 := Lib.hid s
  have HN := Lib.hid hn
  clear hn
  have HVV := Lib.hid hV
  have HNU := Lib.hid hnu
  go_enter Tryz.func55, Tryz.ntmps55
  go_wp2_with (first | ((with_reducible show wpList _ _ _ (⟨_, .box 118 _, _, _, _, _⟩ :: _) _ _); refine wpList_box_blk rfl 118 _ rfl (aArr (some ⟨kb, 0, none⟩) none (.slice (some ⟨vb, 0, none⟩) n cp)) rfl ?_; intro w0 hA hL hs; have hcA := hA.cellA; have s0 := s.below hL; have hK0 := hK.next hL; have hcK := hK0.cellK; have hLK := hL) | (go_at_call 83; refine (has_one s0).mono ?_; rintro e w' ⟨rfl, rfl⟩) | (go_at_call 13; refine (cK _ hLK).mono ?_; rintro e w1 ⟨rfl, hb1⟩; have hA1 := hA.next hb1; have hcA1 := hA1.cellA; have hL1 := more hL hb1))
  have HAA := Lib.hid hA1
  have HLL := Lib.hid hL1
  go_loopw [42] (fun i wr => ∃ k : Nat, i = .int .i64 k ∧ k ≤ n ∧ (∀ j v, j < k → vs[j]? = some v → Dc.good uvalid v = true) ∧ Below w.heap.size w wr ∧ Blk wr w.heap.size (aArr (some ⟨kb, 0, none⟩) none (.slice (some ⟨vb, 0, none⟩) n cp)) 118) (fun i wr => n - (intOf i).toNat)
  case atStart => exact ⟨0, rfl, Nat.zero_le _, fun j v h => absurd h (by omega), HLL.out, HAA.out⟩
  case round =>
    obtain ⟨k, rfl, hk, hgd, hb, hA2⟩ := hrel
    have HG := Lib.hid hgd
    have HB := Lib.hid hb
    have HA2 := Lib.hid hA2
    have hcA2 := hA2.cellA
    have hV := HVV.out.next hb
    clear hgd hb hA2
    by_cases hlt : k < n
    · obtain ⟨v, hv⟩ : ∃ v, vs[k]? = some v := ⟨_, List.getElem?_eq_getElem (by rw [← HN.out]; exact hlt)⟩
      have hlti : (k : Int) < n := by omega
      have hvn := HNU.out v (List.mem_of_getElem? hv)
      have HV := Lib.hid hv
      have cC := fun W (h : Below wr.heap.size wr W) => check_any v W (S0.out.tabs.below (HB.out.trans (h.mono HB.out.size))) hvn
      cases hgv : Dc.good uvalid v
      · simp only [hgv, Bool.false_eq_true, if_false] at cC
        have HGV := Lib.hid hgv
        clear hgv
        go_wp2_with (first | ((with_reducible show wpList _ _ _ (⟨some 45, .load 36 _, _, _, _, _⟩ :: _) _ _); refine wpList_load_mid rfl 36 _ rfl vb (k * 5) rfl [.int .i64 v.kind, .bool v.bool, .float .f64 v.num, .string v.str, .int .i64 v.id] _ (hV.range hv) Tryz.underlying36 rfl Tryz.size36 ?_) | ((with_reducible show wpList _ _ _ (⟨_, .alloc 36, _, _, _, _⟩ :: _) _ _); refine wpList_alloc_blk rfl 36 rfl (vArr Dc.v0) zero36 ?_; intro wq hq hLq hsq; clear hsq) | ((with_reducible show wpList _ _ _ (⟨_, .store 36 _ _, _, _, _, _⟩ :: _) _ _); refine wpList_store_blk rfl 36 _ _ rfl _ (vArr v) _ 36 rfl rfl hq Tryz.size36 rfl (vArr_one _) ?_; intro wt ht hOt; have hLt := below_only hLq hOt (by simp)) | ((with_reducible show wpList _ _ _ (⟨_, .load 36 _, _, _, _, _⟩ :: _) _ _); refine wpList_load_blk rfl 36 _ rfl _ rfl ht Tryz.row36 Tryz.size36 ?_) | (go_at_call 40; refine (cC _ hLt).mono ?_; rintro e wu ⟨rfl, hbu⟩; have hLu := more hLt hbu))
        go_ret
        refine ⟨?_, HB.out.trans (hLu.mono HB.out.size)⟩
        unfold wrongV
        rw [if_neg (by simp only [List.all_eq_true, Classical.not_forall]; exact ⟨v, List.mem_of_getElem? HV.out, by rw [HGV.out]; simp⟩)]
        rfl
      · simp only [hgv, if_true] at cC
        have HGV := Lib.hid hgv
        clear hgv
        go_wp2_with (first | ((with_reducible show wpList _ _ _ (⟨some 45, .load 36 _, _, _, _, _⟩ :: _) _ _); refine wpList_load_mid rfl 36 _ rfl vb (k * 5) rfl [.int .i64 v.kind, .bool v.bool, .float .f64 v.num, .string v.str, .int .i64 v.id] _ (hV.range hv) Tryz.underlying36 rfl Tryz.size36 ?_) | ((with_reducible show wpList _ _ _ (⟨_, .alloc 36, _, _, _, _⟩ :: _) _ _); refine wpList_alloc_blk rfl 36 rfl (vArr Dc.v0) zero36 ?_; intro wq hq hLq hsq; clear hsq) | ((with_reducible show wpList _ _ _ (⟨_, .store 36 _ _, _, _, _, _⟩ :: _) _ _); refine wpList_store_blk rfl 36 _ _ rfl _ (vArr v) _ 36 rfl rfl hq Tryz.size36 rfl (vArr_one _) ?_; intro wt ht hOt; have hLt := below_only hLq hOt (by simp)) | ((with_reducible show wpList _ _ _ (⟨_, .load 36 _, _, _, _, _⟩ :: _) _ _); refine wpList_load_blk rfl 36 _ rfl _ rfl ht Tryz.row36 Tryz.size36 ?_) | (go_at_call 40; refine (cC _ hLt).mono ?_; rintro e wu ⟨rfl, hbu⟩; have hLu := more hLt hbu))
        refine ⟨⟨k + 1, by simp, by omega, fun j u hj hu => ?_, HB.out.trans (hLu.mono HB.out.size), HA2.out.next hLu⟩, by simp [intOf]; omega⟩
        by_cases hjk : j = k
        · subst hjk
          rw [HV.out] at hu
          cases hu
          exact HGV.out
        · exact HG.out j u (by omega) hu
    · have hlti : ¬ (k : Int) < n := by omega
      have hall : vs.all (fun v => Dc.good uvalid v) = true := by
        rw [List.all_eq_true]
        intro v hv
        obtain ⟨j, hj⟩ := List.getElem?_of_mem hv
        have hjl := (List.getElem?_eq_some_iff.1 hj).1
        exact HG.out j v (by have := HN.out; omega) hj
      have HALL := Lib.hid hall
      clear HG hV hall
      go_wp2
      go_loopw [76] (fun i wr => ∃ m : Nat, i = .int .i64 m ∧ m ≤ n ∧ (∀ j v, j < m → vs[j]? = some v → lostV v = false) ∧ Below w.heap.size w wr ∧ Blk wr w.heap.size (aArr (some ⟨kb, 0, none⟩) none (.slice (some ⟨vb, 0, none⟩) n cp)) 118) (fun i wr => n - (intOf i).toNat)
      case atStart => exact ⟨0, rfl, Nat.zero_le _, fun j v h => absurd h (by omega), HB.out, HA2.out⟩
      case round =>
        obtain ⟨k, rfl, hk, hgd, hb, hA3⟩ := hrel
        have HG := Lib.hid hgd
        have HB := Lib.hid hb
        have HA3 := Lib.hid hA3
        have hcA2 := hA3.cellA
        have hV := HVV.out.next hb
        clear hgd hb hA3
        by_cases hlt : k < n
        · obtain ⟨v, hv⟩ : ∃ v, vs[k]? = some v := ⟨_, List.getElem?_eq_getElem (by rw [← HN.out]; exact hlt)⟩
          have hlti : (k : Int) < n := by omega
          have HV := Lib.hid hv
          have cC := fun W (h : Below wr.heap.size wr W) => lost_any (S0.out.below (HB.out.trans (h.mono HB.out.size))) v
          cases hgv : lostV v
          · simp only [hgv] at cC
            have HGV := Lib.hid hgv
            clear hgv
            go_wp2_with (first | ((with_reducible show wpList _ _ _ (⟨some 79, .load 36 _, _, _, _, _⟩ :: _) _ _); refine wpList_load_mid rfl 36 _ rfl vb (k * 5) rfl [.int .i64 v.kind, .bool v.bool, .float .f64 v.num, .string v.str, .int .i64 v.id] _ (hV.range hv) Tryz.underlying36 rfl Tryz.size36 ?_) | ((with_reducible show wpList _ _ _ (⟨_, .alloc 36, _, _, _, _⟩ :: _) _ _); refine wpList_alloc_blk rfl 36 rfl (vArr Dc.v0) zero36 ?_; intro wq hq hLq hsq; clear hsq) | ((with_reducible show wpList _ _ _ (⟨_, .store 36 _ _, _, _, _, _⟩ :: _) _ _); refine wpList_store_blk rfl 36 _ _ rfl _ (vArr v) _ 36 rfl rfl hq Tryz.size36 rfl (vArr_one _) ?_; intro wt ht hOt; have hLt := below_only hLq hOt (by simp)) | ((with_reducible show wpList _ _ _ (⟨_, .load 36 _, _, _, _, _⟩ :: _) _ _); refine wpList_load_blk rfl 36 _ rfl _ rfl ht Tryz.row36 Tryz.size36 ?_) | (go_at_call 92; refine (cC _ hLt).mono ?_; rintro e wu ⟨rfl, hbu⟩; have hLu := more hLt hbu))
            refine ⟨⟨k + 1, by simp, by omega, fun j u hj hu => ?_, HB.out.trans (hLu.mono HB.out.size), HA3.out.next hLu⟩, by simp [intOf]; omega⟩
            by_cases hjk : j = k
            · subst hjk
              rw [HV.out] at hu
              cases hu
              exact HGV.out
            · exact HG.out j u (by omega) hu
          · simp only [hgv] at cC
            have HGV := Lib.hid hgv
            clear hgv
            go_wp2_with (first | ((with_reducible show wpList _ _ _ (⟨some 79, .load 36 _, _, _, _, _⟩ :: _) _ _); refine wpList_load_mid rfl 36 _ rfl vb (k * 5) rfl [.int .i64 v.kind, .bool v.bool, .float .f64 v.num, .string v.str, .int .i64 v.id] _ (hV.range hv) Tryz.underlying36 rfl Tryz.size36 ?_) | ((with_reducible show wpList _ _ _ (⟨_, .alloc 36, _, _, _, _⟩ :: _) _ _); refine wpList_alloc_blk rfl 36 rfl (vArr Dc.v0) zero36 ?_; intro wq hq hLq hsq; clear hsq) | ((with_reducible show wpList _ _ _ (⟨_, .store 36 _ _, _, _, _, _⟩ :: _) _ _); refine wpList_store_blk rfl 36 _ _ rfl _ (vArr v) _ 36 rfl rfl hq Tryz.size36 rfl (vArr_one _) ?_; intro wt ht hOt; have hLt := below_only hLq hOt (by simp)) | ((with_reducible show wpList _ _ _ (⟨_, .load 36 _, _, _, _, _⟩ :: _) _ _); refine wpList_load_blk rfl 36 _ rfl _ rfl ht Tryz.row36 Tryz.size36 ?_) | (go_at_call 92; refine (cC _ hLt).mono ?_; rintro e wu ⟨rfl, hbu⟩; have hLu := more hLt hbu))
            go_ret
            refine ⟨?_, HB.out.trans (hLu.mono HB.out.size)⟩
            unfold wrongV
            rw [if_pos HALL.out, if_pos (List.any_eq_true.2 ⟨v, List.mem_of_getElem? HV.out, HGV.out⟩)]
            rfl
        · have hlti : ¬ (k : Int) < n := by omega
          have hlf : vs.any lostV = false := by
            rw [List.any_eq_false]
            intro v hv
            obtain ⟨j, hj⟩ := List.getElem?_of_mem hv
            have hjl := (List.getElem?_eq_some_iff.1 hj).1
            rw [HG.out j v (by have := HN.out; omega) hj]
            simp
          have HLF := Lib.hid hlf
          clear hlf hV
          go_wp2
          go_ret
          refine ⟨?_, HB.out⟩
          unfold wrongV
          rw [if_pos HALL.out, HLF.out]
          rfl


end Go.Proofs.YtoalboilghgalaaGreatDoor
