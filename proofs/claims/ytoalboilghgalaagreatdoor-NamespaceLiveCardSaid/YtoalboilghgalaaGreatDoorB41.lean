/- Lemmas for this claim, in parts: Tagl, Wrongv. -/
import Derived.Test.YtoalboilghgalaaGreatDoorB33
import Derived.Test.YtoalboilghgalaaGreatDoorB34
import Derived.Test.YtoalboilghgalaaGreatDoorB19
import Derived.Deep.DeepCutAuto
set_option maxRecDepth 100000
set_option maxHeartbeats 4000000
set_option linter.unusedVariables false
set_option linter.unusedSimpArgs false
/- A list of properties with the tag alone. Plain Lean. -/
namespace Go.Proofs.YtoalboilghgalaaGreatDoor
open Go.RowKit
open Go.Proofs.Dc (V Ds Ky)

theorem overV_num {a b : V} (h1 : a.num < 2 ^ 64) (h2 : b.num < 2 ^ 64) : (Dc.overV a b).num < 2 ^ 64 := by unfold Dc.overV; split <;> assumption
theorem fill_num2 {a : V} (h1 : a.num < 2 ^ 64) : (Dc.fill a).num < 2 ^ 64 := by
  unfold Dc.fill; split
  · exact h1
  · decide
theorem Nums.over {a b : Ds} (ha : Nums a) (hb : Nums b) : Nums (Dc.over a b) := ⟨overV_num ha.val hb.val, overV_num ha.get hb.get, overV_num ha.set hb.set⟩
theorem Nums.complete {uv : ByteArray → Bool} {a : Ds} (ha : Nums a) : Nums (Dc.complete uv a) := by
  unfold Dc.complete; split
  · exact ⟨ha.val, fill_num2 ha.get, fill_num2 ha.set⟩
  · exact ⟨fill_num2 ha.val, ha.get, ha.set⟩
theorem Nums.apply {uv : ByteArray → Bool} {ext : Bool} {a b : Ds} (ha : Nums a) (hb : Nums b) : Nums (Dc.apply uv ext a b).1 := by
  unfold Dc.apply
  split
  · split
    · exact hb.complete
    · exact ha
  · split
    · exact ha
    · split
      · exact Nums.complete ⟨hb.val, hb.get, hb.set⟩
      · exact ha.over hb
theorem put_length (L : List (Ky × Ds)) (k : Ky) (d : Ds) : (putL L k d).length ≤ L.length + 1 := by
  induction L with
  | nil => simp [putL]
  | cons a r ih =>
    rw [putL_cons]; split
    · simp
    · simp only [List.length_cons]; omega
theorem def_length (ext : Bool) (L : List (Ky × Ds)) (k : Ky) (d : Ds) : (defL ext L k d).length ≤ L.length + 1 := by
  unfold defL; split
  · exact put_length _ _ _
  · omega
def kTag : Ky := ⟨ByteArray.empty, 12⟩
structure TagD (d : Ds) : Prop where
  c : d.c = 1
  nums : Nums d
  whole : Dc.Whole uvalid d
/-- the tag alone, not configurable -/
def TagL (L : List (Ky × Ds)) : Prop := ∃ d, L = [(kTag, d)] ∧ TagD d
theorem apply_c {now d : Ds} (hw : Dc.Whole uvalid now) (hc : now.c = 1) (hk : Dc.kindB uvalid d = true) : (Dc.apply uvalid false now d).1.c = 1 := by
  have hz := hw.zero
  have hf : Dc.formed uvalid d = true := by
    cases hh : Dc.formed uvalid d
    · simp [Dc.kindB, hh] at hk
    · rfl
  have ht : 0 ≤ d.c ∧ d.c ≤ 2 := by
    simp only [Dc.formed, Bool.and_eq_true, Dc.tri, decide_eq_true_eq] at hf
    exact hf.2
  unfold Dc.apply
  rw [if_neg (by rw [hz]; simp)]
  cases hb : Dc.barred uvalid now d with
  | true => simp [hc]
  | false =>
    have h1 : ¬ ((now.c == 1 && false) = true) := by simp
    rw [if_neg h1]
    unfold Dc.barred at hb
    split at hb
    · cases hb
    · rename_i h2
      simp only [Bool.or_eq_true, not_or] at h2
      have h3 : d.c ≠ 2 := by simpa using h2.1
      split
      · rename_i h4
        rw [if_neg h4.1, if_pos h4.2] at hb
        cases hb
      · show (if d.c = 0 then now.c else d.c) = 1
        split <;> omega
theorem TagL.nums {L : List (Ky × Ds)} (h : TagL L) : LNums L := by
  obtain ⟨d, rfl, h⟩ := h
  intro p hp; obtain rfl := List.mem_singleton.1 hp; exact h.nums
theorem TagL.ok {L : List (Ky × Ds)} (h : TagL L) : LOk L := by
  obtain ⟨d, rfl, h⟩ := h
  refine ⟨?_, fun p hp => ?_, fun p hp => ?_⟩
  · exact List.Pairwise.cons (fun _ h => by cases h) List.Pairwise.nil
  · obtain rfl := List.mem_singleton.1 hp; exact h.whole
  · obtain rfl := List.mem_singleton.1 hp; show kgood kTag = true; kernel_rfl
theorem TagL.good {L : List (Ky × Ds)} (h : TagL L) : LGood L := h.ok.keys
theorem TagL.len {L : List (Ky × Ds)} (h : TagL L) : L.length = 1 := by obtain ⟨d, rfl, _⟩ := h; rfl
theorem TagL.lt {L : List (Ky × Ds)} (h : TagL L) : L.length < 1000000 := by rw [h.len]; decide
theorem TagL.le {L : List (Ky × Ds)} (h : TagL L) : L.length ≤ 1000000 := by rw [h.len]; decide
theorem TagL.sort {L : List (Ky × Ds)} (h : TagL L) : sortK L = [kTag] := by
  obtain ⟨d, rfl, _⟩ := h
  have := (Srt.stable_perm (lt := ltK) [kTag])
  exact List.perm_singleton.1 this
theorem TagL.at {L : List (Ky × Ds)} (h : TagL L) (k : Ky) : ((getL L k).isSome = true ∧ ((getL L k).getD Dc.d0).c = 1) ∨ (getL L k).isSome = false := by
  obtain ⟨d, rfl, h⟩ := h
  rw [getL_cons]
  cases keq k (kTag, d).1 with
  | true => exact .inl ⟨rfl, h.c⟩
  | false => exact .inr rfl
theorem TagL.tag {L : List (Ky × Ds)} (h : TagL L) : (getL L kTag).isSome = true := by
  obtain ⟨d, rfl, h⟩ := h
  rw [getL_cons, show keq kTag (kTag, d).1 = true from by kernel_rfl]; rfl
theorem TagL.define {L : List (Ky × Ds)} (h : TagL L) {k : Ky} {d : Ds} (hd : Nums d) (hw : wrongD k d = 0) : TagL (defL false L k d) := by
  obtain ⟨hk, hb⟩ := wrong_zero hw
  have h0 := h
  obtain ⟨e, rfl, he⟩ := h
  unfold defL
  have hnow := h0.ok.now k
  rw [getL_cons, putL_cons]
  cases hq : keq k (kTag, e).1 with
  | true =>
    rw [getL_cons, hq] at hnow
    simp only [if_true, Option.getD_some] at hnow ⊢
    split
    · rename_i ho
      exact ⟨_, rfl, apply_c he.whole he.c hb, he.nums.apply hd, Dc.apply_whole hnow hb ho⟩
    · exact h0
  | false =>
    simp only [Bool.false_eq_true, if_false]
    rw [show getL ([] : List (Ky × Ds)) k = none from rfl]
    have : (Dc.apply uvalid false ((none : Option Ds).getD Dc.d0) d).2 = false := by
      unfold Dc.apply
      rw [if_pos (by show Dc.zero Dc.d0 = true; kernel_rfl)]
      rfl
    rw [this]
    exact h0

end Go.Proofs.YtoalboilghgalaaGreatDoor

/- The heap: wrong, of a call with a key, or none, and values. -/
namespace Go.Proofs.YtoalboilghgalaaGreatDoor
open Go.RowKit
open Go.Proofs.Dc (V Ds Ky)
attribute [local go_sem] run_store_float

/-- values lie in a row -/
def ValsAt (W : World) (vb : Nat) (vs : List V) : Prop := ∃ C, Blk W vb C 36 ∧ ∀ i v, vs[i]? = some v → ∀ j, j < 5 → C[i * 5 + j]? = (vCells v)[j]?
theorem ValsAt.next {W W' : World} {vb : Nat} {vs : List V} (h : ValsAt W vb vs) (hb : Below W.heap.size W W') : ValsAt W' vb vs := by
  obtain ⟨C, h1, h2⟩ := h
  exact ⟨C, h1.next hb, h2⟩
theorem ValsAt.range {W : World} {vb : Nat} {vs : List V} (h : ValsAt W vb vs) {i : Nat} {v : V} (hv : vs[i]? = some v) : W.rangeAt vb (i * 5) [.int .i64 v.kind, .bool v.bool, .float .f64 v.num, .string v.str, .int .i64 v.id] := by
  obtain ⟨C, h1, h2⟩ := h
  intro j u hu
  have hj : j < 5 := (List.getElem?_eq_some_iff.1 hu).1
  rw [h1.cell, h2 i v hv j hj]
  exact hu
/-- what wrong says of values -/
def wrongV (vs : List V) : Int := if vs.all (fun v => Dc.good uvalid v) then (if vs.any lostV then 4 else 0) else 5
theorem wrongv_none {n0 : Nat} {w : World} {hb : Nat} {ov : Value} {ob : Nat} {tp : Option Addr} {cap fuel deep : Int} {kd : Kd} {ext : Bool} {L : List (Ky × Ds)} (s : StX n0 w hb ov ob tp cap fuel deep kd ext L) (vs : List V) (vb n cp : Nat) (hn : n = vs.length) (hn9 : n ≤ 1000) (hV : ValsAt w vb vs) (hnu : ∀ v ∈ vs, v.num < 2 ^ 64) : Calls Tryz.prog 55 #[.pointer (some ⟨hb, 0, none⟩), .int .i64 1, .agg #[.pointer none, .pointer none, (.slice (some ⟨vb, 0, none⟩) n cp)]] w fun e w' => e = .returned (.int .i64 (wrongV vs)) ∧ Below w.heap.size w w' := by
  have S0 := Lib.hid s
  have HN := Lib.hid hn
  clear hn
  have HVV := Lib.hid hV
  have HNU := Lib.hid hnu
  go_enter Tryz.func55, Tryz.ntmps55
  go_wp2_with (first | ((with_reducible show wpList _ _ _ (⟨_, .box 118 _, _, _, _, _⟩ :: _) _ _); refine wpList_box_blk rfl 118 _ rfl (aArr none none (.slice (some ⟨vb, 0, none⟩) n cp)) rfl ?_; intro w0 hA hL hs; have hcA := hA.cellA; have s0 := s.below hL) | (go_at_call 83; refine (has_one s0).mono ?_; rintro e w' ⟨rfl, rfl⟩))
  have HAA := Lib.hid hA
  have HLL := Lib.hid hL
  go_loopw [42] (fun i wr => ∃ k : Nat, i = .int .i64 k ∧ k ≤ n ∧ (∀ j v, j < k → vs[j]? = some v → Dc.good uvalid v = true) ∧ Below w.heap.size w wr ∧ Blk wr w.heap.size (aArr none none (.slice (some ⟨vb, 0, none⟩) n cp)) 118) (fun i wr => n - (intOf i).toNat)
  case atStart => exact ⟨0, rfl, Nat.zero_le _, fun j v h => absurd h (by omega), HLL.out, HAA.out⟩
  case round =>
    obtain ⟨k, rfl, hk, hgd, hb, hA2⟩ := hrel
    have HG := Lib.hid hgd
    have HB := Lib.hid hb
    have HA2 := Lib.hid hA2
    have hcA2 := hA2.cellA
    have hV := HVV.out.next hb
    clear hgd hb hA2
    by_cases hlt : k < n
    · obtain ⟨v, hv⟩ : ∃ v, vs[k]? = some v := ⟨_, List.getElem?_eq_getElem (by rw [← HN.out]; exact hlt)⟩
      have hlti : (k : Int) < n := by omega
      have hvn := HNU.out v (List.mem_of_getElem? hv)
      have HV := Lib.hid hv
      have cC := fun W (h : Below wr.heap.size wr W) => check_any v W (S0.out.tabs.below (HB.out.trans (h.mono HB.out.size))) hvn
      cases hgv : Dc.good uvalid v
      · simp only [hgv, Bool.false_eq_true, if_false] at cC
        have HGV := Lib.hid hgv
        clear hgv
        go_wp2_with (first | ((with_reducible show wpList _ _ _ (⟨some 45, .load 36 _, _, _, _, _⟩ :: _) _ _); refine wpList_load_mid rfl 36 _ rfl vb (k * 5) rfl [.int .i64 v.kind, .bool v.bool, .float .f64 v.num, .string v.str, .int .i64 v.id] _ (hV.range hv) Tryz.underlying36 rfl Tryz.size36 ?_) | ((with_reducible show wpList _ _ _ (⟨_, .alloc 36, _, _, _, _⟩ :: _) _ _); refine wpList_alloc_blk rfl 36 rfl (vArr Dc.v0) zero36 ?_; intro wq hq hLq hsq; clear hsq) | ((with_reducible show wpList _ _ _ (⟨_, .store 36 _ _, _, _, _, _⟩ :: _) _ _); refine wpList_store_blk rfl 36 _ _ rfl _ (vArr v) _ 36 rfl rfl hq Tryz.size36 rfl (vArr_one _) ?_; intro wt ht hOt; have hLt := below_only hLq hOt (by simp)) | ((with_reducible show wpList _ _ _ (⟨_, .load 36 _, _, _, _, _⟩ :: _) _ _); refine wpList_load_blk rfl 36 _ rfl _ rfl ht Tryz.row36 Tryz.size36 ?_) | (go_at_call 40; refine (cC _ hLt).mono ?_; rintro e wu ⟨rfl, hbu⟩; have hLu := more hLt hbu))
        go_ret
        refine ⟨?_, HB.out.trans (hLu.mono HB.out.size)⟩
        unfold wrongV
        rw [if_neg (by simp only [List.all_eq_true, Classical.not_forall]; exact ⟨v, List.mem_of_getElem? HV.out, by rw [HGV.out]; simp⟩)]
        rfl
      · simp only [hgv, if_true] at cC
        have HGV := Lib.hid hgv
        clear hgv
        go_wp2_with (first | ((with_reducible show wpList _ _ _ (⟨some 45, .load 36 _, _, _, _, _⟩ :: _) _ _); refine wpList_load_mid rfl 36 _ rfl vb (k * 5) rfl [.int .i64 v.kind, .bool v.bool, .float .f64 v.num, .string v.str, .int .i64 v.id] _ (hV.range hv) Tryz.underlying36 rfl Tryz.size36 ?_) | ((with_reducible show wpList _ _ _ (⟨_, .alloc 36, _, _, _, _⟩ :: _) _ _); refine wpList_alloc_blk rfl 36 rfl (vArr Dc.v0) zero36 ?_; intro wq hq hLq hsq; clear hsq) | ((with_reducible show wpList _ _ _ (⟨_, .store 36 _ _, _, _, _, _⟩ :: _) _ _); refine wpList_store_blk rfl 36 _ _ rfl _ (vArr v) _ 36 rfl rfl hq Tryz.size36 rfl (vArr_one _) ?_; intro wt ht hOt; have hLt := below_only hLq hOt (by simp)) | ((with_reducible show wpList _ _ _ (⟨_, .load 36 _, _, _, _, _⟩ :: _) _ _); refine wpList_load_blk rfl 36 _ rfl _ rfl ht Tryz.row36 Tryz.size36 ?_) | (go_at_call 40; refine (cC _ hLt).mono ?_; rintro e wu ⟨rfl, hbu⟩; have hLu := more hLt hbu))
        refine ⟨⟨k + 1, by simp, by omega, fun j u hj hu => ?_, HB.out.trans (hLu.mono HB.out.size), HA2.out.next hLu⟩, by simp [intOf]; omega⟩
        by_cases hjk : j = k
        · subst hjk
          rw [HV.out] at hu
          cases hu
          exact HGV.out
        · exact HG.out j u (by omega) hu
    · have hlti : ¬ (k : Int) < n := by omega
      have hall : vs.all (fun v => Dc.good uvalid v) = true := by
        rw [List.all_eq_true]
        intro v hv
        obtain ⟨j, hj⟩ := List.getElem?_of_mem hv
        have hjl := (List.getElem?_eq_some_iff.1 hj).1
        exact HG.out j v (by have := HN.out; omega) hj
      have HALL := Lib.hid hall
      clear HG hV hall
      go_wp2
      go_loopw [76] (fun i wr => ∃ m : Nat, i = .int .i64 m ∧ m ≤ n ∧ (∀ j v, j < m → vs[j]? = some v → lostV v = false) ∧ Below w.heap.size w wr ∧ Blk wr w.heap.size (aArr none none (.slice (some ⟨vb, 0, none⟩) n cp)) 118) (fun i wr => n - (intOf i).toNat)
      case atStart => exact ⟨0, rfl, Nat.zero_le _, fun j v h => absurd h (by omega), HB.out, HA2.out⟩
      case round =>
        obtain ⟨k, rfl, hk, hgd, hb, hA3⟩ := hrel
        have HG := Lib.hid hgd
        have HB := Lib.hid hb
        have HA3 := Lib.hid hA3
        have hcA2 := hA3.cellA
        have hV := HVV.out.next hb
        clear hgd hb hA3
        by_cases hlt : k < n
        · obtain ⟨v, hv⟩ : ∃ v, vs[k]? = some v := ⟨_, List.getElem?_eq_getElem (by rw [← HN.out]; exact hlt)⟩
          have hlti : (k : Int) < n := by omega
          have HV := Lib.hid hv
          have cC := fun W (h : Below wr.heap.size wr W) => lost_any (S0.out.below (HB.out.trans (h.mono HB.out.size))) v
          cases hgv : lostV v
          · simp only [hgv] at cC
            have HGV := Lib.hid hgv
            clear hgv
            go_wp2_with (first | ((with_reducible show wpList _ _ _ (⟨some 79, .load 36 _, _, _, _, _⟩ :: _) _ _); refine wpList_load_mid rfl 36 _ rfl vb (k * 5) rfl [.int .i64 v.kind, .bool v.bool, .float .f64 v.num, .string v.str, .int .i64 v.id] _ (hV.range hv) Tryz.underlying36 rfl Tryz.size36 ?_) | ((with_reducible show wpList _ _ _ (⟨_, .alloc 36, _, _, _, _⟩ :: _) _ _); refine wpList_alloc_blk rfl 36 rfl (vArr Dc.v0) zero36 ?_; intro wq hq hLq hsq; clear hsq) | ((with_reducible show wpList _ _ _ (⟨_, .store 36 _ _, _, _, _, _⟩ :: _) _ _); refine wpList_store_blk rfl 36 _ _ rfl _ (vArr v) _ 36 rfl rfl hq Tryz.size36 rfl (vArr_one _) ?_; intro wt ht hOt; have hLt := below_only hLq hOt (by simp)) | ((with_reducible show wpList _ _ _ (⟨_, .load 36 _, _, _, _, _⟩ :: _) _ _); refine wpList_load_blk rfl 36 _ rfl _ rfl ht Tryz.row36 Tryz.size36 ?_) | (go_at_call 92; refine (cC _ hLt).mono ?_; rintro e wu ⟨rfl, hbu⟩; have hLu := more hLt hbu))
            refine ⟨⟨k + 1, by simp, by omega, fun j u hj hu => ?_, HB.out.trans (hLu.mono HB.out.size), HA3.out.next hLu⟩, by simp [intOf]; omega⟩
            by_cases hjk : j = k
            · subst hjk
              rw [HV.out] at hu
              cases hu
              exact HGV.out
            · exact HG.out j u (by omega) hu
          · simp only [hgv] at cC
            have HGV := Lib.hid hgv
            clear hgv
            go_wp2_with (first | ((with_reducible show wpList _ _ _ (⟨some 79, .load 36 _, _, _, _, _⟩ :: _) _ _); refine wpList_load_mid rfl 36 _ rfl vb (k * 5) rfl [.int .i64 v.kind, .bool v.bool, .float .f64 v.num, .string v.str, .int .i64 v.id] _ (hV.range hv) Tryz.underlying36 rfl Tryz.size36 ?_) | ((with_reducible show wpList _ _ _ (⟨_, .alloc 36, _, _, _, _⟩ :: _) _ _); refine wpList_alloc_blk rfl 36 rfl (vArr Dc.v0) zero36 ?_; intro wq hq hLq hsq; clear hsq) | ((with_reducible show wpList _ _ _ (⟨_, .store 36 _ _, _, _, _, _⟩ :: _) _ _); refine wpList_store_blk rfl 36 _ _ rfl _ (vArr v) _ 36 rfl rfl hq Tryz.size36 rfl (vArr_one _) ?_; intro wt ht hOt; have hLt := below_only hLq hOt (by simp)) | ((with_reducible show wpList _ _ _ (⟨_, .load 36 _, _, _, _, _⟩ :: _) _ _); refine wpList_load_blk rfl 36 _ rfl _ rfl ht Tryz.row36 Tryz.size36 ?_) | (go_at_call 92; refine (cC _ hLt).mono ?_; rintro e wu ⟨rfl, hbu⟩; have hLu := more hLt hbu))
            go_ret
            refine ⟨?_, HB.out.trans (hLu.mono HB.out.size)⟩
            unfold wrongV
            rw [if_pos HALL.out, if_pos (List.any_eq_true.2 ⟨v, List.mem_of_getElem? HV.out, HGV.out⟩)]
            rfl
        · have hlti : ¬ (k : Int) < n := by omega
          have hlf : vs.any lostV = false := by
            rw [List.any_eq_false]
            intro v hv
            obtain ⟨j, hj⟩ := List.getElem?_of_mem hv
            have hjl := (List.getElem?_eq_some_iff.1 hj).1
            rw [HG.out j v (by have := HN.out; omega) hj]
            simp
          have HLF := Lib.hid hlf
          clear hlf hV
          go_wp2
          go_ret
          refine ⟨?_, HB.out⟩
          unfold wrongV
          rw [if_pos HALL.out, HLF.out]
          rfl

theorem wrongv_key {n0 : Nat} {w : World} {hb : Nat} {ov : Value} {ob : Nat} {tp : Option Addr} {cap fuel deep : Int} {kd : Kd} {ext : Bool} {L : List (Ky × Ds)} (s : StX n0 w hb ov ob tp cap fuel deep kd ext L) (vs : List V) (vb n cp : Nat) (hn : n = vs.length) (hn9 : n ≤ 1000) (hV : ValsAt w vb vs) (hnu : ∀ v ∈ vs, v.num < 2 ^ 64) (k0 : Ky) (kb : Nat) (hK : Blk w kb (kArr k0) 40) (hg0 : kgood k0 = true) : Calls Tryz.prog 55 #[.pointer (some ⟨hb, 0, none⟩), .int .i64 1, .agg #[.pointer (some ⟨kb, 0, none⟩), .pointer none, (.slice (some ⟨vb, 0, none⟩) n cp)]] w fun e w' => e = .returned (.int .i64 (wrongV vs)) ∧ Below w.heap.size w w' := by
  have cK := fun W (h : Below w.heap.size w W) => keycheck_any k0 W (s.tabs.below h)
  simp only [hg0, if_true] at cK
  clear hg0
  have S0 := Lib.hid s
  have HN := Lib.hid hn
  clear hn
  have HVV := Lib.hid hV
  have HNU := Lib.hid hnu
  go_enter Tryz.func55, Tryz.ntmps55
  go_wp2_with (first | ((with_reducible show wpList _ _ _ (⟨_, .box 118 _, _, _, _, _⟩ :: _) _ _); refine wpList_box_blk rfl 118 _ rfl (aArr (some ⟨kb, 0, none⟩) none (.slice (some ⟨vb, 0, none⟩) n cp)) rfl ?_; intro w0 hA hL hs; have hcA := hA.cellA; have s0 := s.below hL; have hK0 := hK.next hL; have hcK := hK0.cellK; have hLK := hL) | (go_at_call 83; refine (has_one s0).mono ?_; rintro e w' ⟨rfl, rfl⟩) | (go_at_call 13; refine (cK _ hLK).mono ?_; rintro e w1 ⟨rfl, hb1⟩; have hA1 := hA.next hb1; have hcA1 := hA1.cellA; have hL1 := more hL hb1))
  have HAA := Lib.hid hA1
  have HLL := Lib.hid hL1
  go_loopw [42] (fun i wr => ∃ k : Nat, i = .int .i64 k ∧ k ≤ n ∧ (∀ j v, j < k → vs[j]? = some v → Dc.good uvalid v = true) ∧ Below w.heap.size w wr ∧ Blk wr w.heap.size (aArr (some ⟨kb, 0, none⟩) none (.slice (some ⟨vb, 0, none⟩) n cp)) 118) (fun i wr => n - (intOf i).toNat)
  case atStart => exact ⟨0, rfl, Nat.zero_le _, fun j v h => absurd h (by omega), HLL.out, HAA.out⟩
  case round =>
    obtain ⟨k, rfl, hk, hgd, hb, hA2⟩ := hrel
    have HG := Lib.hid hgd
    have HB := Lib.hid hb
    have HA2 := Lib.hid hA2
    have hcA2 := hA2.cellA
    have hV := HVV.out.next hb
    clear hgd hb hA2
    by_cases hlt : k < n
    · obtain ⟨v, hv⟩ : ∃ v, vs[k]? = some v := ⟨_, List.getElem?_eq_getElem (by rw [← HN.out]; exact hlt)⟩
      have hlti : (k : Int) < n := by omega
      have hvn := HNU.out v (List.mem_of_getElem? hv)
      have HV := Lib.hid hv
      have cC := fun W (h : Below wr.heap.size wr W) => check_any v W (S0.out.tabs.below (HB.out.trans (h.mono HB.out.size))) hvn
      cases hgv : Dc.good uvalid v
      · simp only [hgv, Bool.false_eq_true, if_false] at cC
        have HGV := Lib.hid hgv
        clear hgv
        go_wp2_with (first | ((with_reducible show wpList _ _ _ (⟨some 45, .load 36 _, _, _, _, _⟩ :: _) _ _); refine wpList_load_mid rfl 36 _ rfl vb (k * 5) rfl [.int .i64 v.kind, .bool v.bool, .float .f64 v.num, .string v.str, .int .i64 v.id] _ (hV.range hv) Tryz.underlying36 rfl Tryz.size36 ?_) | ((with_reducible show wpList _ _ _ (⟨_, .alloc 36, _, _, _, _⟩ :: _) _ _); refine wpList_alloc_blk rfl 36 rfl (vArr Dc.v0) zero36 ?_; intro wq hq hLq hsq; clear hsq) | ((with_reducible show wpList _ _ _ (⟨_, .store 36 _ _, _, _, _, _⟩ :: _) _ _); refine wpList_store_blk rfl 36 _ _ rfl _ (vArr v) _ 36 rfl rfl hq Tryz.size36 rfl (vArr_one _) ?_; intro wt ht hOt; have hLt := below_only hLq hOt (by simp)) | ((with_reducible show wpList _ _ _ (⟨_, .load 36 _, _, _, _, _⟩ :: _) _ _); refine wpList_load_blk rfl 36 _ rfl _ rfl ht Tryz.row36 Tryz.size36 ?_) | (go_at_call 40; refine (cC _ hLt).mono ?_; rintro e wu ⟨rfl, hbu⟩; have hLu := more hLt hbu))
        go_ret
        refine ⟨?_, HB.out.trans (hLu.mono HB.out.size)⟩
        unfold wrongV
        rw [if_neg (by simp only [List.all_eq_true, Classical.not_forall]; exact ⟨v, List.mem_of_getElem? HV.out, by rw [HGV.out]; simp⟩)]
        rfl
      · simp only [hgv, if_true] at cC
        have HGV := Lib.hid hgv
        clear hgv
        go_wp2_with (first | ((with_reducible show wpList _ _ _ (⟨some 45, .load 36 _, _, _, _, _⟩ :: _) _ _); refine wpList_load_mid rfl 36 _ rfl vb (k * 5) rfl [.int .i64 v.kind, .bool v.bool, .float .f64 v.num, .string v.str, .int .i64 v.id] _ (hV.range hv) Tryz.underlying36 rfl Tryz.size36 ?_) | ((with_reducible show wpList _ _ _ (⟨_, .alloc 36, _, _, _, _⟩ :: _) _ _); refine wpList_alloc_blk rfl 36 rfl (vArr Dc.v0) zero36 ?_; intro wq hq hLq hsq; clear hsq) | ((with_reducible show wpList _ _ _ (⟨_, .store 36 _ _, _, _, _, _⟩ :: _) _ _); refine wpList_store_blk rfl 36 _ _ rfl _ (vArr v) _ 36 rfl rfl hq Tryz.size36 rfl (vArr_one _) ?_; intro wt ht hOt; have hLt := below_only hLq hOt (by simp)) | ((with_reducible show wpList _ _ _ (⟨_, .load 36 _, _, _, _, _⟩ :: _) _ _); refine wpList_load_blk rfl 36 _ rfl _ rfl ht Tryz.row36 Tryz.size36 ?_) | (go_at_call 40; refine (cC _ hLt).mono ?_; rintro e wu ⟨rfl, hbu⟩; have hLu := more hLt hbu))
        refine ⟨⟨k + 1, by simp, by omega, fun j u hj hu => ?_, HB.out.trans (hLu.mono HB.out.size), HA2.out.next hLu⟩, by simp [intOf]; omega⟩
        by_cases hjk : j = k
        · subst hjk
          rw [HV.out] at hu
          cases hu
          exact HGV.out
        · exact HG.out j u (by omega) hu
    · have hlti : ¬ (k : Int) < n := by omega
      have hall : vs.all (fun v => Dc.good uvalid v) = true := by
        rw [List.all_eq_true]
        intro v hv
        obtain ⟨j, hj⟩ := List.getElem?_of_mem hv
        have hjl := (List.getElem?_eq_some_iff.1 hj).1
        exact HG.out j v (by have := HN.out; omega) hj
      have HALL := Lib.hid hall
      clear HG hV hall
      go_wp2
      go_loopw [76] (fun i wr => ∃ m : Nat, i = .int .i64 m ∧ m ≤ n ∧ (∀ j v, j < m → vs[j]? = some v → lostV v = false) ∧ Below w.heap.size w wr ∧ Blk wr w.heap.size (aArr (some ⟨kb, 0, none⟩) none (.slice (some ⟨vb, 0, none⟩) n cp)) 118) (fun i wr => n - (intOf i).toNat)
      case atStart => exact ⟨0, rfl, Nat.zero_le _, fun j v h => absurd h (by omega), HB.out, HA2.out⟩
      case round =>
        obtain ⟨k, rfl, hk, hgd, hb, hA3⟩ := hrel
        have HG := Lib.hid hgd
        have HB := Lib.hid hb
        have HA3 := Lib.hid hA3
        have hcA2 := hA3.cellA
        have hV := HVV.out.next hb
        clear hgd hb hA3
        by_cases hlt : k < n
        · obtain ⟨v, hv⟩ : ∃ v, vs[k]? = some v := ⟨_, List.getElem?_eq_getElem (by rw [← HN.out]; exact hlt)⟩
          have hlti : (k : Int) < n := by omega
          have HV := Lib.hid hv
          have cC := fun W (h : Below wr.heap.size wr W) => lost_any (S0.out.below (HB.out.trans (h.mono HB.out.size))) v
          cases hgv : lostV v
          · simp only [hgv] at cC
            have HGV := Lib.hid hgv
            clear hgv
            go_wp2_with (first | ((with_reducible show wpList _ _ _ (⟨some 79, .load 36 _, _, _, _, _⟩ :: _) _ _); refine wpList_load_mid rfl 36 _ rfl vb (k * 5) rfl [.int .i64 v.kind, .bool v.bool, .float .f64 v.num, .string v.str, .int .i64 v.id] _ (hV.range hv) Tryz.underlying36 rfl Tryz.size36 ?_) | ((with_reducible show wpList _ _ _ (⟨_, .alloc 36, _, _, _, _⟩ :: _) _ _); refine wpList_alloc_blk rfl 36 rfl (vArr Dc.v0) zero36 ?_; intro wq hq hLq hsq; clear hsq) | ((with_reducible show wpList _ _ _ (⟨_, .store 36 _ _, _, _, _, _⟩ :: _) _ _); refine wpList_store_blk rfl 36 _ _ rfl _ (vArr v) _ 36 rfl rfl hq Tryz.size36 rfl (vArr_one _) ?_; intro wt ht hOt; have hLt := below_only hLq hOt (by simp)) | ((with_reducible show wpList _ _ _ (⟨_, .load 36 _, _, _, _, _⟩ :: _) _ _); refine wpList_load_blk rfl 36 _ rfl _ rfl ht Tryz.row36 Tryz.size36 ?_) | (go_at_call 92; refine (cC _ hLt).mono ?_; rintro e wu ⟨rfl, hbu⟩; have hLu := more hLt hbu))
            refine ⟨⟨k + 1, by simp, by omega, fun j u hj hu => ?_, HB.out.trans (hLu.mono HB.out.size), HA3.out.next hLu⟩, by simp [intOf]; omega⟩
            by_cases hjk : j = k
            · subst hjk
              rw [HV.out] at hu
              cases hu
              exact HGV.out
            · exact HG.out j u (by omega) hu
          · simp only [hgv] at cC
            have HGV := Lib.hid hgv
            clear hgv
            go_wp2_with (first | ((with_reducible show wpList _ _ _ (⟨some 79, .load 36 _, _, _, _, _⟩ :: _) _ _); refine wpList_load_mid rfl 36 _ rfl vb (k * 5) rfl [.int .i64 v.kind, .bool v.bool, .float .f64 v.num, .string v.str, .int .i64 v.id] _ (hV.range hv) Tryz.underlying36 rfl Tryz.size36 ?_) | ((with_reducible show wpList _ _ _ (⟨_, .alloc 36, _, _, _, _⟩ :: _) _ _); refine wpList_alloc_blk rfl 36 rfl (vArr Dc.v0) zero36 ?_; intro wq hq hLq hsq; clear hsq) | ((with_reducible show wpList _ _ _ (⟨_, .store 36 _ _, _, _, _, _⟩ :: _) _ _); refine wpList_store_blk rfl 36 _ _ rfl _ (vArr v) _ 36 rfl rfl hq Tryz.size36 rfl (vArr_one _) ?_; intro wt ht hOt; have hLt := below_only hLq hOt (by simp)) | ((with_reducible show wpList _ _ _ (⟨_, .load 36 _, _, _, _, _⟩ :: _) _ _); refine wpList_load_blk rfl 36 _ rfl _ rfl ht Tryz.row36 Tryz.size36 ?_) | (go_at_call 92; refine (cC _ hLt).mono ?_; rintro e wu ⟨rfl, hbu⟩; have hLu := more hLt hbu))
            go_ret
            refine ⟨?_, HB.out.trans (hLu.mono HB.out.size)⟩
            unfold wrongV
            rw [if_pos HALL.out, if_pos (List.any_eq_true.2 ⟨v, List.mem_of_getElem? HV.out, HGV.out⟩)]
            rfl
        · have hlti : ¬ (k : Int) < n := by omega
          have hlf : vs.any lostV = false := by
            rw [List.any_eq_false]
            intro v hv
            obtain ⟨j, hj⟩ := List.getElem?_of_mem hv
            have hjl := (List.getElem?_eq_some_iff.1 hj).1
            rw [HG.out j v (by have := HN.out; omega) hj]
            simp
          have HLF := Lib.hid hlf
          clear hlf hV
          go_wp2
          go_ret
          refine ⟨?_, HB.out⟩
          unfold wrongV
          rw [if_pos HALL.out, HLF.out]
          rfl


end Go.Proofs.YtoalboilghgalaaGreatDoor
