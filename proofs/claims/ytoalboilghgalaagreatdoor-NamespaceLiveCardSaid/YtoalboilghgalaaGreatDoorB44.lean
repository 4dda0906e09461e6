/- Lemmas for this claim, in parts: Nslow, Nsmap, Nsnew0, Nsnew, Nsround, Nsof, Nsbind, Nsinv, Nsask, Nslaw0. -/
import Derived.Test.YtoalboilghgalaaGreatDoorB01
import Derived.Test.YtoalboilghgalaaGreatDoorB27
import Derived.Test.YtoalboilghgalaaGreatDoorB43
import Derived.Test.YtoalboilghgalaaGreatDoorB07
import Derived.Test.YtoalboilghgalaaGreatDoorB29
import Derived.Test.YtoalboilghgalaaGreatDoorB39
import Derived.Test.YtoalboilghgalaaGreatDoorB35
import Derived.Test.YtoalboilghgalaaGreatDoorB41
import Derived.Test.YtoalboilghgalaaGreatDoorB18
import Derived.Test.YtoalboilghgalaaGreatDoorB42
import Derived.Test.YtoalboilghgalaaGreatDoorB40
set_option maxRecDepth 100000
set_option maxHeartbeats 4000000
set_option linter.unusedVariables false
set_option linter.unusedSimpArgs false
/- Small functions: value.Null, Num, Str, Ref; Len; Fault of what is thrown; a name among names. -/
namespace Go.Proofs.YtoalboilghgalaaGreatDoor
open Go.RowKit
open Go.Proofs.Dc (V Ds Ky)
attribute [local go_sem] run_store_float

attribute [local go_sem] Oper.semAt_some
theorem null11 (w : World) : Calls Tryz.prog 11 #[] w fun e w' => e = .returned (.agg (vArr vN)) ∧ Below w.heap.size w w' := by
  go_enter Tryz.func11, Tryz.ntmps11
  go_wp2_with (first | ((with_reducible show wpList _ _ _ (⟨some 0, .alloc 36, _, _, _, _⟩ :: _) _ _); refine wpList_alloc_blk rfl 36 rfl (vArr Dc.v0) zero36 ?_; intro w1 hR hL hs; clear hs) | (go_at_call 52; refine (null_open _).mono ?_; rintro e w2 ⟨rfl, hb2⟩; replace hR := hR.next hb2; replace hL := more hL hb2) | ((with_reducible show wpList _ _ _ (⟨_, .store 36 _ _, _, _, _, _⟩ :: _) _ _); refine wpList_store_blk rfl 36 _ _ rfl _ (vArr vN) _ 36 rfl rfl hR Tryz.size36 rfl (vArr_one _) ?_; intro w9 hB hO))
  exact bodyPost_ret (results_cell Tryz.results11 rfl hB Tryz.row36 Tryz.size36) rfl ⟨rfl, below_only hL hO (by simp)⟩
theorem num28 (x : Nat) (w : World) : Calls Tryz.prog 28 #[.float .f64 x] w fun e w' => e = .returned (.agg (vArr ⟨4, false, x, ByteArray.empty, 0⟩)) ∧ Below w.heap.size w w' := by
  go_enter Tryz.func28, Tryz.ntmps28
  go_wp2_with (first | ((with_reducible show wpList _ _ _ (⟨some 2, .alloc 36, _, _, _, _⟩ :: _) _ _); refine wpList_alloc_blk rfl 36 rfl (vArr Dc.v0) zero36 ?_; intro w1 hR hL hs; clear hs) | (go_at_call 73; refine (num_open x _).mono ?_; rintro e w2 ⟨rfl, hb2⟩; replace hR := hR.next hb2; replace hL := more hL hb2) | ((with_reducible show wpList _ _ _ (⟨_, .store 36 _ _, _, _, _, _⟩ :: _) _ _); refine wpList_store_blk rfl 36 _ _ rfl _ (vArr ⟨4, false, x, ByteArray.empty, 0⟩) _ 36 rfl rfl hR Tryz.size36 rfl (vArr_one _) ?_; intro w9 hB hO))
  exact bodyPost_ret (results_cell Tryz.results28 rfl hB Tryz.row36 Tryz.size36) rfl ⟨rfl, below_only hL hO (by simp)⟩
theorem made58 (v : V) (w : World) (hT : Tabs w) (hn : v.num < 2 ^ 64) (hg : Dc.good uvalid v = true) : Calls Tryz.prog 58 #[.agg (vArr v)] w fun e w' => e = .returned (.agg (vArr v)) ∧ Below w.heap.size w w' := by
  have HC : Hid (∀ W, Tabs W → Calls Tryz.prog 40 #[.agg (vArr v)] W fun e w' => e = .returned (.int .i64 0) ∧ Below W.heap.size W w') := Lib.hid fun W hT => by
    have := check_any v W hT hn
    rw [hg, if_pos rfl] at this
    exact this
  clear hg hn
  go_enter Tryz.func58, Tryz.ntmps58
  go_wp2_with (first | ((with_reducible show wpList _ _ _ (⟨_, .box 36 _, _, _, _, _⟩ :: _) _ _); refine wpList_box_blk rfl 36 _ rfl (vArr v) rfl ?_; intro w0 hV hL hs; clear hs) | ((with_reducible show wpList _ _ _ (⟨some 2, .alloc 36, _, _, _, _⟩ :: _) _ _); refine wpList_alloc_blk rfl 36 rfl (vArr Dc.v0) zero36 ?_; intro w1 hR hL1 hs; clear hs; have hge := hL.size; replace hV := hV.next hL1; replace hL := more hL hL1) | ((with_reducible show wpList _ _ _ (⟨_, .load 36 (.tmp 1), _, _, _, _⟩ :: _) _ _); refine wpList_load_blk rfl 36 _ rfl _ rfl hV Tryz.row36 Tryz.size36 ?_) | (go_at_call 40; refine (HC.out _ (hT.below hL)).mono ?_; rintro e w2 ⟨rfl, hb2⟩; replace hR := hR.next hb2; replace hV := hV.next hb2; replace hL := more hL hb2) | ((with_reducible show wpList _ _ _ (⟨_, .store 36 _ _, _, _, _, _⟩ :: _) _ _); refine wpList_store_blk rfl 36 _ _ rfl _ (vArr v) _ 36 rfl rfl hR Tryz.size36 rfl (vArr_one _) ?_; intro w9 hB hO))
  exact bodyPost_ret (results_cell Tryz.results58 rfl hB Tryz.row36 Tryz.size36) rfl ⟨rfl, below_only hL hO (by simpa using hge)⟩
theorem str24 (q : ByteArray) (hq : Dc.good uvalid ⟨5, false, 0, q, 0⟩ = true) (w : World) (hT0 : Tabs w) : Calls Tryz.prog 24 #[.string q] w fun e w' => e = .returned (.agg (vArr ⟨5, false, 0, q, 0⟩)) ∧ Below w.heap.size w w' := by
  have HT : Hid (∀ W, Below w.heap.size w W → Tabs W) := Lib.hid fun W h => hT0.below h
  clear hT0
  go_enter Tryz.func24, Tryz.ntmps24
  go_wp2_with (first | ((with_reducible show wpList _ _ _ (⟨some 2, .alloc 36, _, _, _, _⟩ :: _) _ _); refine wpList_alloc_blk rfl 36 rfl (vArr Dc.v0) zero36 ?_; intro w1 hR hL hs; clear hs) | (go_at_call 67; refine (str_open q _).mono ?_; rintro e w2 ⟨rfl, hb2⟩; replace hR := hR.next hb2; replace hL := more hL hb2) | (go_at_call 58; refine (made58 ⟨5, false, 0, q, 0⟩ _ (HT.out _ hL) (show (0 : Nat) < 2 ^ 64 by decide) hq).mono ?_; rintro e w2 ⟨rfl, hb2⟩; replace hR := hR.next hb2; replace hL := more hL hb2) | ((with_reducible show wpList _ _ _ (⟨_, .store 36 _ _, _, _, _, _⟩ :: _) _ _); refine wpList_store_blk rfl 36 _ _ rfl _ (vArr ⟨5, false, 0, q, 0⟩) _ 36 rfl rfl hR Tryz.size36 rfl (vArr_one _) ?_; intro w9 hB hO))
  exact bodyPost_ret (results_cell Tryz.results24 rfl hB Tryz.row36 Tryz.size36) rfl ⟨rfl, below_only hL hO (by simp)⟩
theorem ref16 (w : World) (hT0 : Tabs w) : Calls Tryz.prog 16 #[.int .i64 1] w fun e w' => e = .returned (.agg (vArr ⟨7, false, 0, ByteArray.empty, 1⟩)) ∧ Below w.heap.size w w' := by
  have HT : Hid (∀ W, Below w.heap.size w W → Tabs W) := Lib.hid fun W h => hT0.below h
  clear hT0
  go_enter Tryz.func16, Tryz.ntmps16
  go_wp2_with (first | ((with_reducible show wpList _ _ _ (⟨some 2, .alloc 36, _, _, _, _⟩ :: _) _ _); refine wpList_alloc_blk rfl 36 rfl (vArr Dc.v0) zero36 ?_; intro w1 hR hL hs; clear hs) | (go_at_call 59; refine (ref_open 1 _).mono ?_; rintro e w2 ⟨rfl, hb2⟩; replace hR := hR.next hb2; replace hL := more hL hb2) | (go_at_call 58; refine (made58 ⟨7, false, 0, ByteArray.empty, 1⟩ _ (HT.out _ hL) (by decide) (by kernel_rfl)).mono ?_; rintro e w2 ⟨rfl, hb2⟩; replace hR := hR.next hb2; replace hL := more hL hb2) | ((with_reducible show wpList _ _ _ (⟨_, .store 36 _ _, _, _, _, _⟩ :: _) _ _); refine wpList_store_blk rfl 36 _ _ rfl _ (vArr ⟨7, false, 0, ByteArray.empty, 1⟩) _ 36 rfl rfl hR Tryz.size36 rfl (vArr_one _) ?_; intro w9 hB hO))
  exact bodyPost_ret (results_cell Tryz.results16 rfl hB Tryz.row36 Tryz.size36) rfl ⟨rfl, below_only hL hO (by simp)⟩
theorem len42 {w : World} {hb : Nat} {c f dp de : Int} (hH : Blk w hb (hArr c f dp de (.slice none 0 0)) 102) : Calls Tryz.prog 42 #[.pointer (some ⟨hb, 0, none⟩)] w fun e w' => e = .returned (.int .i64 0) ∧ w = w' := by
  have hc := hH.cellH
  clear hH
  go_enter Tryz.func42, Tryz.ntmps42
  go_wp2
  go_ret
  exact ⟨rfl, rfl⟩
def fArrT : Array Value := #[.int .i64 0, .int .i64 5, .int .i64 0, .bool false, .float .f64 0, .string ⟨#[]⟩, .int .i64 0]
theorem as26T (b : Nat) (w : World) : (Instr.typeAssert (errT b) 31 26 true).run Tryz.prog w = .ok (.tuple #[.int .i64 0, .bool false]) w := by kernel_rfl
theorem as204T (b : Nat) (w : World) : (Instr.typeAssert (errT b) 31 204 true).run Tryz.prog w = .ok (.tuple #[.pointer (some ⟨b, 0, none⟩), .bool true]) w := by kernel_rfl
theorem eq_nil_errT (b : Nat) (w : World) : (binOp .eql 31 (errT b) .nilIface).run Tryz.prog w = .ok (.bool false) w := by kernel_rfl
theorem thr_range {W : World} {b : Nat} (h : Blk W b thrArr 206) : W.rangeAt b 1 [.int .i64 0, .bool false, .float .f64 0, .string ByteArray.empty, .int .i64 0] := fun j v hv => by
  have hj : j < 5 := (List.getElem?_eq_some_iff.1 hv).1
  rw [h.cell]
  match j, hj with
  | 0, _ => exact hv
  | 1, _ => exact hv
  | 2, _ => exact hv
  | 3, _ => exact hv
  | 4, _ => exact hv
theorem fArrT_one : fArrT.all (·.oneCell') = true := by simp [fArrT, Value.oneCell']
theorem faultT0 (b : Nat) (w : World) (hT : Blk w b thrArr 206) : Calls Tryz.prog 87 #[errT b] w fun e w' => e = .returned (.agg fArrT) ∧ Below w.heap.size w w' := by
  have h1 := as26T b
  have h2 := eq_nil_errT b
  have h3 := as204T b
  unfold errT at h1 h2 h3 ⊢
  go_enter Tryz.func87, Tryz.ntmps87
  go_wp2_with (first | ((with_reducible show wpList _ _ _ (⟨_, .alloc 83, _, _, _, _⟩ :: _) _ _); refine wpList_alloc_blk rfl 83 rfl (fArr 0) zero83 ?_; intro w1 hA hL hs; clear hs; replace hT := hT.next hL; have hct := hT.cell))
  refine Ord.region (fun W => W.cell? ⟨b, 0, none⟩ = some (.int .i64 5) ∧ Blk W b thrArr 206) [] (by kernel_rfl) ⟨hct 0, hT⟩ ?_
  intro hS
  refine Ord.tp 0 19 rfl rfl ?_
  refine Ord.tp 1 20 rfl rfl ?_
  refine Ord.tp 2 21 rfl rfl ?_
  refine Ord.tp 3 22 rfl rfl ?_
  refine Ord.tp 4 23 rfl rfl ?_
  refine Ord.tp 5 24 rfl rfl ?_
  refine Ord.tp 6 25 rfl rfl ?_
  refine Ord.tk 7 26 rfl rfl (yieldsIf_load_mid (by rfl) 36 _ rfl b 1 rfl [.int .i64 0, .bool false, .float .f64 0, .string ByteArray.empty, .int .i64 0] _ (fun W hSW => thr_range hSW.2) Tryz.underlying36 rfl Tryz.size36) ?_
  refine Ord.tp 8 27 rfl rfl ?_
  refine Ord.step (i := 9) rfl (by kernel_rfl) (by rfl) ?_
  intro K HK
  refine store_blk_op 83 (.tmp 2) (.tmp 27) rfl w.heap.size fArrT (fArr 0) 83 rfl rfl hA Tryz.size83 (Eq.refl 7) fArrT_one ?_
  intro w9 hB hO
  refine HK.out _ _ ?_
  clear HK
  refine ⟨Ord.np (by kernel_rfl), ?_⟩
  try simp only [List.setIfInBounds_toArray, List.set_cons_zero, List.set_cons_succ]
  refine Ord.done (by kernel_rfl) ?_ _
  clear hS
  go_wp2
  exact bodyPost_ret (results_cell Tryz.results87 rfl hB Tryz.row83 Tryz.size83) rfl ⟨rfl, below_only hL.drew hO (by simp)⟩
theorem faultT (b : Nat) (w : World) (hT : Blk w b thrArr 206) : Calls Tryz.prog 37 #[errT b] w fun e w' => e = .returned (.agg fArrT) ∧ Below w.heap.size w w' := by
  go_enter Tryz.func37, Tryz.ntmps37
  go_wp2_with (first | ((with_reducible show wpList _ _ _ (⟨_, .alloc 83, _, _, _, _⟩ :: _) _ _); refine wpList_alloc_blk rfl 83 rfl (fArr 0) zero83 ?_; intro w1 hA hL hs; clear hs; replace hT := hT.next hL) | (go_at_call 87; refine (faultT0 b _ hT).mono ?_; rintro e w2 ⟨rfl, hb2⟩; replace hA := hA.next hb2; replace hL := more hL hb2) | ((with_reducible show wpList _ _ _ (⟨_, .store 83 _ _, _, _, _, _⟩ :: _) _ _); refine wpList_store_blk rfl 83 _ _ rfl _ fArrT _ 83 rfl rfl hA Tryz.size83 rfl fArrT_one ?_; intro w9 hB hO))
  exact bodyPost_ret (results_cell Tryz.results37 rfl hB Tryz.row83 Tryz.size83) rfl ⟨rfl, below_only hL hO (by simp)⟩
theorem toList_inj {a b : ByteArray} (h : a.toList = b.toList) : a = b := by
  rw [ByteArray.toList_eq, ByteArray.toList_eq] at h
  exact ByteArray.ext (Array.toList_inj.1 h)
theorem bneq {a b : ByteArray} (h : a ≠ b) : (a.toList == b.toList) = false := by
  simp only [beq_eq_false_iff_ne, ne_eq]
  exact fun h2 => h (toList_inj h2)
/-- a name among names -/
def hasB (qs : List ByteArray) (q : ByteArray) : Bool := qs.any fun p => decide (p = q)
theorem hasB_iff {qs : List ByteArray} {q : ByteArray} : hasB qs q = true ↔ q ∈ qs := by simp [hasB]
/-- what has tells -/
def HasPost (b : Bool) (w : World) (e : Ending) (w' : World) : Prop := ∃ i : Int, e = .returned (.tuple #[.int .i64 i, .bool b]) ∧ w = w'
/-- the caller's list of names, below n0 -/
def NamesAt (n0 : Nat) (W : World) (A : Option Addr) (qs : List ByteArray) : Prop := ∀ (i : Nat) (q : ByteArray), qs[i]? = some q → ∃ b off, A = some ⟨b, off, none⟩ ∧ b < n0 ∧ b < W.heap.size ∧ W.cell? ⟨b, off + i, none⟩ = some (.string q)
theorem NamesAt.below {n0 : Nat} {W W' : World} {A : Option Addr} {qs : List ByteArray} (h : NamesAt n0 W A qs) (hb : Below n0 W W') : NamesAt n0 W' A qs := fun i q hi => by
  obtain ⟨b, off, h1, h2, h3, h4⟩ := h i q hi
  exact ⟨b, off, h1, h2, Nat.lt_of_lt_of_le h3 hb.size, (World.cell?_of_block (w := W) (a := ⟨b, _, none⟩) (hb.block b h2)).trans h4⟩
theorem has45 {n0 : Nat} {w : World} {A : Option Addr} {qs : List ByteArray} (cap : Nat) (q : ByteArray) (hN : NamesAt n0 w A qs) (hlen : qs.length ≤ 1000000) : Calls Tryz.prog 45 #[.slice A qs.length cap, .string q] w fun e w' => HasPost (hasB qs q) w e w' := by
  obtain ⟨n, hn⟩ : ∃ n, qs.length = n := ⟨_, rfl⟩
  rw [hn] at hlen ⊢
  have HN := Lib.hid hn
  have HQ := Lib.hid hN
  clear hn hN
  go_enter Tryz.func45, Tryz.ntmps45
  go_wp2
  go_loopg [6] n (fun fu s6 wr => ∃ (i : Nat), s6 = .int .i64 i ∧ i + fu = n ∧ (∀ j p, j < i → qs[j]? = some p → p ≠ q) ∧ w = wr)
  case atStart => exact ⟨0, rfl, by omega, fun j p hj => by omega, rfl⟩
  case round =>
    obtain ⟨i, rfl, hi, hno, hw⟩ := hrel
    subst hw
    by_cases hlt : i < n
    · obtain ⟨p, hp⟩ : ∃ p, qs[i]? = some p := ⟨_, List.getElem?_eq_getElem (by rw [HN.out]; exact hlt)⟩
      obtain ⟨b, off, rfl, _, _, hc⟩ := HQ.out i p hp
      have HP := Lib.hid hp
      have HNO := Lib.hid hno
      obtain ⟨fu, rfl⟩ : ∃ fu, gk = fu + 1 := ⟨gk - 1, by omega⟩
      obtain ⟨i2, hi2⟩ : ∃ i2, i + 1 = i2 := ⟨_, rfl⟩
      have e1 : (i : Int) + 1 = (i2 : Int) := by omega
      have e2 := wrap_nat i2 (by omega)
      have e3 : (0 : Int) ≤ (i : Int) := by omega
      have e4 : (i : Int) < (n : Int) := by omega
      have HI3 := Lib.hid (show i2 + fu = n ∧ i + 1 = i2 from ⟨by omega, hi2⟩)
      clear hp hno hi hi2
      by_cases hpq : p = q
      · subst hpq
        go_wp2
        go_ret2
        rw [hasB_iff.2 (List.mem_of_getElem? HP.out)]
        exact ⟨_, rfl, rfl⟩
      · have hpn := bneq hpq
        go_wp2
        go_roundg fu
        case measure => omega
        case rel =>
          obtain ⟨h1, h2⟩ := HI3.out
          subst h2
          refine ⟨i + 1, by go_num, h1, fun j u hj hu => ?_, rfl⟩
          by_cases hji : j = i
          · subst hji; rw [HP.out] at hu; cases hu; exact hpq
          · exact HNO.out j u (by omega) hu
    · obtain rfl : i = n := by omega
      have hlti : ¬ (i : Int) < (i : Int) := by omega
      have HNO := Lib.hid hno
      clear hno
      go_wp2
      go_ret2
      have hm : q ∉ qs := fun hm => by
        obtain ⟨j, hj⟩ := List.mem_iff_getElem?.1 hm
        have hjl := (List.getElem?_eq_some_iff.1 hj).1
        exact HNO.out j q (by rw [HN.out] at hjl; exact hjl) hj rfl
      rw [show hasB qs q = false by cases h : hasB qs q; rfl; exact absurd (hasB_iff.1 h) hm]
      exact ⟨_, rfl, rfl⟩

end Go.Proofs.YtoalboilghgalaaGreatDoor

/- A map from names to values. -/
namespace Go.Proofs.YtoalboilghgalaaGreatDoor
open Go.RowKit
open Go.Proofs.Dc (V Ds Ky)
attribute [local go_sem] run_store_float

attribute [local go_sem] Oper.semAt_some
theorem ba_refl (q : ByteArray) : (q == q) = true := by cases q with | mk d => exact beq_self_eq_true d
theorem ba_ne {a b : ByteArray} (h : ¬ a = b) : (a == b) = false := by
  cases a with | mk d => cases b with | mk e =>
  have : ¬ d = e := fun h2 => h (by rw [h2])
  have h3 : (d == e) = false := by simpa using this
  exact h3
/-- the entries of the map -/
def MapS (es : List MapEntry) (M : List (ByteArray × V)) : Prop := es.map (fun e => (e.key, e.val)) = M.map fun p => (Value.string p.1, Value.agg (vArr p.2))
/-- the place of a name -/
def idxM : List (ByteArray × V) → ByteArray → Option Nat
  | [], _ => none
  | p :: r, q => if q = p.1 then some 0 else (idxM r q).map (· + 1)
def getM (M : List (ByteArray × V)) (q : ByteArray) : Option V := (idxM M q).bind fun i => (M[i]?).map (·.2)
def setM (M : List (ByteArray × V)) (q : ByteArray) (v : V) : List (ByteArray × V) := match idxM M q with
  | some i => M.set i (q, v)
  | none => M ++ [(q, v)]
theorem idxM_lt : ∀ {M : List (ByteArray × V)} {q : ByteArray} {i : Nat}, idxM M q = some i → ∃ p, M[i]? = some p ∧ p.1 = q
  | [], _, _, h => by cases h
  | p :: r, q, i, h => by
    simp only [idxM] at h
    split at h
    · rename_i e
      cases h
      exact ⟨p, rfl, e.symm⟩
    · obtain ⟨j, hj, rfl⟩ := Option.map_eq_some_iff.1 h
      obtain ⟨p', h1, h2⟩ := idxM_lt hj
      exact ⟨p', by simpa using h1, h2⟩
theorem idxM_set : ∀ {M : List (ByteArray × V)} {q : ByteArray} {i : Nat} {v : V} (r : ByteArray), idxM M q = some i → idxM (M.set i (q, v)) r = idxM M r
  | [], _, _, _, _, h => by cases h
  | p :: M, q, i, v, r, h => by
    simp only [idxM] at h
    split at h
    · rename_i e
      cases h
      simp only [List.set_cons_zero, idxM, e]
    · obtain ⟨j, hj, rfl⟩ := Option.map_eq_some_iff.1 h
      simp only [List.set_cons_succ, idxM, idxM_set r hj]
theorem idxM_app : ∀ (M : List (ByteArray × V)) (q r : ByteArray) (v : V), idxM M q = none → idxM (M ++ [(q, v)]) r = if r = q then some M.length else idxM M r
  | [], q, r, v, _ => by simp [idxM]
  | p :: M, q, r, v, h => by
    simp only [idxM] at h
    split at h
    · cases h
    · rename_i e
      have h2 : idxM M q = none := by simpa using h
      simp only [List.cons_append, idxM, idxM_app M q r v h2]
      by_cases hr : r = p.1
      · rw [if_pos hr, if_pos hr, if_neg (by rw [hr]; exact fun h => e h.symm)]
      · rw [if_neg hr, if_neg hr]
        split <;> simp
theorem getM_set (M : List (ByteArray × V)) (q r : ByteArray) (v : V) : getM (setM M q v) r = if r = q then some v else getM M r := by
  unfold setM
  cases hq : idxM M q with
  | some i =>
    obtain ⟨p, hp, rfl⟩ := idxM_lt hq
    have hi := (List.getElem?_eq_some_iff.1 hp).1
    simp only [getM, idxM_set r hq]
    by_cases hr : r = p.1
    · subst hr
      rw [if_pos rfl, hq]
      simp [hi]
    · rw [if_neg hr]
      cases hj : idxM M r with
      | none => rfl
      | some j =>
        have hij : i ≠ j := fun e => by
          subst e
          obtain ⟨p', h1, h2⟩ := idxM_lt hj
          rw [hp] at h1; cases h1; exact hr h2.symm
        simp [List.getElem?_set_ne hij]
  | none =>
    simp only [getM, idxM_app M q r v hq]
    by_cases hr : r = q
    · rw [if_pos hr, if_pos hr]; simp
    · rw [if_neg hr, if_neg hr]
      cases hj : idxM M r with
      | none => rfl
      | some j =>
        obtain ⟨p', h1, _⟩ := idxM_lt hj
        have := (List.getElem?_eq_some_iff.1 h1).1
        simp [List.getElem?_append_left this]
theorem findNow_s (q : ByteArray) : ∀ (es : List MapEntry) (M : List (ByteArray × V)) (i : Nat), MapS es M → Instr.findNow (.string) (.string q) es i = some ((idxM M q).bind fun n => (M[n]?).map fun p => (n + i, Value.agg (vArr p.2)))
  | [], M, i, h => by
    have : M = [] := by
      cases M with
      | nil => rfl
      | cons a r => simp [MapS] at h
    subst this; rfl
  | e :: es, M, i, h => by
    cases M with
    | nil => simp [MapS] at h
    | cons p r =>
      simp only [MapS, List.map_cons, List.cons.injEq, Prod.mk.injEq] at h
      obtain ⟨⟨h1, h2⟩, h3⟩ := h
      have ih := findNow_s q es r (i + 1) h3
      simp only [Instr.findNow, h1, Instr.sameNow, idxM]
      by_cases hq : q = p.1
      · subst hq
        rw [ba_refl]; simp [h2]
      · have hb : (q == p.1) = false := ba_ne hq
        rw [hb, if_neg hq]
        simp only [ih]
        cases idxM r q with
        | none => rfl
        | some n => simp [Nat.add_assoc, Nat.add_comm 1 i]
/-- block b is the map M -/
def SMap (W : World) (b : Nat) (M : List (ByteArray × V)) : Prop := ∃ es clock, W.heap[b]? = some (.map es clock) ∧ MapS es.toList M
theorem SMap.mine {es : Array MapEntry} {M : List (ByteArray × V)} (h : MapS es.toList M) (c : Nat) : Mine (.map es c) = false := by
  show es.toList.any aggKey = false
  rw [List.any_eq_false]
  intro e he
  have : (e.key, e.val) ∈ M.map fun p => (Value.string p.1, Value.agg (vArr p.2)) := by rw [← h]; exact List.mem_map.2 ⟨e, he, rfl⟩
  obtain ⟨p, _, hp⟩ := List.mem_map.1 this
  simp only [Prod.mk.injEq] at hp
  unfold aggKey
  rw [← hp.1]; simp
theorem SMap.lt {W : World} {b : Nat} {M : List (ByteArray × V)} (h : SMap W b M) : b < W.heap.size := by
  obtain ⟨es, c, h1, _⟩ := h
  exact (Array.getElem?_eq_some_iff.1 h1).1
theorem SMap.next {W W' : World} {b : Nat} {M : List (ByteArray × V)} (h : SMap W b M) (hb : Below W.heap.size W W') : SMap W' b M := by
  have hl := h.lt
  obtain ⟨es, c, h1, h2⟩ := h
  exact ⟨es, c, (hb.block b hl).trans h1, h2⟩
theorem SMap.keeps {n0 : Nat} {W W' : World} {b : Nat} {M : List (ByteArray × V)} (h : SMap W b M) (k : Keeps n0 W W') : SMap W' b M := by
  obtain ⟨es, c, h1, h2⟩ := h
  exact ⟨es, c, k.free b _ h1 (SMap.mine h2 c), h2⟩
theorem SMap.only {W W' : World} {b : Nat} {M : List (ByteArray × V)} {S : List Nat} (h : SMap W b M) (ho : Only S W W') (hn : b ∉ S) : SMap W' b M := by
  have hl := h.lt
  obtain ⟨es, c, h1, h2⟩ := h
  exact ⟨es, c, (ho.block b hl hn).trans h1, h2⟩
theorem SMap.ne {W : World} {b c : Nat} {M : List (ByteArray × V)} {C : Array Value} {t : TypeId} (h : SMap W b M) (hB : Blk W c C t) : b ≠ c := by
  rintro rfl
  obtain ⟨es, k, h1, _⟩ := h
  unfold Blk at hB; rw [h1] at hB; cases hB
theorem run_lookup_s {W : World} {b : Nat} {M : List (ByteArray × V)} (h : SMap W b M) (q : ByteArray) : (Instr.lookup 90 (.map (some b)) (.string q) true).run Tryz.prog W = .ok (.tuple #[.agg (vArr ((getM M q).getD Dc.v0)), .bool (getM M q).isSome]) W := by
  obtain ⟨es, clock, hb, he⟩ := h
  unfold Instr.lookup
  rw [Sem.run_bind, run_underlying Tryz.underlying90]
  simp only [Result.andThen_ok]
  have hg : (getObj b).run Tryz.prog W = .ok (.map es clock) W := by simp [getObj, Sem.run, hb]
  have hf : (Instr.findKey 9 (.string q) es.toList).run Tryz.prog W = .ok ((idxM M q).bind fun n => (M[n]?).map fun p => (n + 0, Value.agg (vArr p.2))) W := by
    unfold Instr.findKey
    rw [Sem.run_bind, run_underlying Tryz.underlying9]
    simp only [Result.andThen_ok, findNow_s q es.toList M 0 he, Sem.run_pure]
  have hc : (Instr.checkKey es.isEmpty 10000 9 (.string q)).run Tryz.prog W = .ok () W := ck9 _ 9999 q W
  simp only [Sem.run_bind, hg, Result.andThen_ok, hc, hf, Sem.run_pure]
  unfold getM
  cases hq : idxM M q with
  | none => simp [zero36 W]
  | some n =>
    obtain ⟨p, hp, _⟩ := idxM_lt hq
    simp [hp]
theorem run_update_s {W : World} {b : Nat} {M : List (ByteArray × V)} (h : SMap W b M) (q : ByteArray) (v : V) : ∃ W', (Instr.mapUpdate 90 (.map (some b)) (.string q) (.agg (vArr v))).run Tryz.prog W = .ok () W' ∧ SMap W' b (setM M q v) ∧ Only [b] W W' := by
  obtain ⟨es, clock, hb, he⟩ := h
  have hlt : b < W.heap.size := (Array.getElem?_eq_some_iff.1 hb).1
  have hg : (getObj b).run Tryz.prog W = .ok (.map es clock) W := by simp [getObj, Sem.run, hb]
  have hf : (Instr.findKey 9 (.string q) es.toList).run Tryz.prog W = .ok ((idxM M q).bind fun n => (M[n]?).map fun p => (n + 0, Value.agg (vArr p.2))) W := by
    unfold Instr.findKey
    rw [Sem.run_bind, run_underlying Tryz.underlying9]
    simp only [Result.andThen_ok, findNow_s q es.toList M 0 he, Sem.run_pure]
  have hc : (Instr.checkKey false 10000 9 (.string q)).run Tryz.prog W = .ok () W := ck9 _ 9999 q W
  have hO : ∀ o : Obj, Only [b] W { W with heap := W.heap.setIfInBounds b o } := fun o => ⟨rfl, rfl, rfl, by simp, fun i _ hn => by simp at hn; simp [Array.getElem?_setIfInBounds_ne (Ne.symm hn)]⟩
  cases hq : idxM M q with
  | none =>
    refine ⟨{ W with heap := W.heap.setIfInBounds b (.map (es.push { key := .string q, val := .agg (vArr v), born := clock }) (clock + 1)) }, ?_, ⟨es.push { key := .string q, val := .agg (vArr v), born := clock }, clock + 1, by simp [hlt], ?_⟩, hO _⟩
    · unfold Instr.mapUpdate
      rw [Sem.run_bind, run_underlying Tryz.underlying90]
      simp only [Result.andThen_ok, Sem.run_bind, hg, hc, hf, hq, Option.bind_none]
      simp [setObj, Sem.run, hb]
    · unfold setM MapS at *
      rw [hq]
      simp [he]
  | some n =>
    obtain ⟨p, hp, hpq⟩ := idxM_lt hq
    have hn : n < M.length := (List.getElem?_eq_some_iff.1 hp).1
    have hln : es.toList.length = M.length := by have := congrArg List.length he; simpa using this
    have hne : n < es.size := by rw [← Array.length_toList, hln]; exact hn
    have hen : (es[n]).key = .string p.1 := by
      have := congrArg (fun l => l[n]?) he
      simp only [List.getElem?_map, hp, Option.map_some] at this
      rw [Array.getElem?_toList, Array.getElem?_eq_getElem hne] at this
      simp only [Option.map_some, Option.some.injEq, Prod.mk.injEq] at this
      exact this.1
    have hk : (Instr.keyThatStays (.string p.1) (.string q)).run Tryz.prog W = .ok (.string q) W := by
      unfold Instr.keyThatStays
      have : Instr.sameBits 10000 (.string p.1) (.string q) = true := by rw [hpq]; simp [Instr.sameBits, ba_refl]
      rw [if_pos this]
      exact Sem.run_pure _ _ _
    refine ⟨{ W with heap := W.heap.setIfInBounds b (.map (es.modify n fun e => { e with key := .string q, val := .agg (vArr v) }) clock) }, ?_, ⟨es.modify n fun e => { e with key := .string q, val := .agg (vArr v) }, clock, by simp [hlt], ?_⟩, hO _⟩
    · unfold Instr.mapUpdate
      rw [Sem.run_bind, run_underlying Tryz.underlying90]
      simp only [Result.andThen_ok, Sem.run_bind, hg, hc, hf, hq, Option.bind_some, hp, Option.map_some, Nat.add_zero, Array.getElem?_eq_getElem hne, Option.getD_some, hen, hk]
      simp [setObj, Sem.run, hb]
    · unfold setM MapS at *
      rw [hq]
      apply List.ext_getElem?
      intro i
      have hi := congrArg (fun l => l[i]?) he
      simp only [List.getElem?_map, Array.getElem?_toList] at hi ⊢
      rw [Array.getElem?_modify, List.getElem?_set]
      by_cases e : n = i
      · subst e
        rw [if_pos rfl, if_pos rfl, if_pos hn, Array.getElem?_eq_getElem hne]
        rfl
      · rw [if_neg e, if_neg e]
        exact hi
section
variable {ops : Array Oper} {rest : List Oper} {o : Oper} {a : Act} {W : World} {Q : Exit → Act → World → Prop}
theorem wpList_lookup_s (hgd : o.guard = none) (m x : Operand) (ho : o.op = .lookup 90 m x true) {b : Nat} {M : List (ByteArray × V)} (hM : SMap W b M) (q : ByteArray) (h1 : a.eval m = .map (some b)) (h2 : a.eval x = .string q)
    (h : wpList Tryz.prog ops Q rest (a.put o.dst (.tuple #[.agg (vArr ((getM M q).getD Dc.v0)), .bool (getM M q).isSome])) W) : wpList Tryz.prog ops Q (o :: rest) a W :=
  wpList_plain hgd fun _ hK => by
    unfold Oper.wp execOp
    simp only [ho, h1, h2, Sem.run_bind, run_lookup_s hM q, Result.andThen_ok, Sem.run_pure]
    exact hK _ _ h
theorem wpList_update_s (hgd : o.guard = none) (m x y : Operand) (ho : o.op = .mapUpdate 90 m x y) {b : Nat} {M : List (ByteArray × V)} (hM : SMap W b M) (q : ByteArray) (v : V) (h1 : a.eval m = .map (some b)) (h2 : a.eval x = .string q) (h3 : a.eval y = .agg (vArr v))
    (h : ∀ W', SMap W' b (setM M q v) → Only [b] W W' → wpList Tryz.prog ops Q rest (a.put o.dst undef) W') : wpList Tryz.prog ops Q (o :: rest) a W :=
  wpList_plain hgd fun _ hK => by
    obtain ⟨W', hr, h4, h5⟩ := run_update_s hM q v
    unfold Oper.wp execOp
    simp only [ho, h1, h2, h3, Sem.run_bind, hr, Result.andThen_ok, Sem.run_pure]
    exact hK _ _ (h W' h4 h5)
theorem wpList_makeMap_s (hgd : o.guard = none) (ho : o.op = .makeMap 90 none)
    (h : ∀ W' b, SMap W' b [] → b = W.heap.size → Below W.heap.size W W' → wpList Tryz.prog ops Q rest (a.put o.dst (.map (some b))) W') : wpList Tryz.prog ops Q (o :: rest) a W :=
  wpList_plain hgd fun _ hK => by
    have hr := run_makeMap (P := Tryz.prog) 90 W
    unfold Oper.wp execOp
    simp only [ho, Option.map_none, Sem.run_bind, hr, Result.andThen_ok, Sem.run_pure]
    exact hK _ _ (h _ _ ⟨#[], 0, heap_alloc_new _ _, rfl⟩ rfl (one _ _))
end

end Go.Proofs.YtoalboilghgalaaGreatDoor

/- The empty heap: Add of a namespace; slices of exports. -/
namespace Go.Proofs.YtoalboilghgalaaGreatDoor
open Go.RowKit
open Go.Proofs.Dc (V Ds Ky)
attribute [local go_sem] run_store_float

attribute [local go_sem] Oper.semAt_some
/-- the heap holds one namespace, without a property -/
def MadeN (xb : Nat) (n0 : Nat) (w : World) (hb : Nat) (c f : Int) (e : Ending) (w' : World) : Prop := ∃ ov ob, e = .returned (.tuple #[.int .i64 1, .nilIface]) ∧ StX n0 w' hb ov ob none c f 0 (kN xb) true [] ∧ Keeps n0 w w'
theorem addN (n0 hb xb : Nat) (c f : Int) (w : World) (hn : n0 ≤ w.heap.size) (hnb : n0 ≤ hb) (hT : Tabs w) (htn : Tryz.lays197_ren.g 3 < n0 ∧ Tryz.lays197_ren.g 4 < n0) (h1 : 1 ≤ c) (hH : Blk w hb (hArr c f 10 0 (.slice none 0 0)) 102) : Calls Tryz.prog 50 #[.pointer (some ⟨hb, 0, none⟩), .int .i64 10, .agg (vArr vN), .iface 157 (.pointer (some ⟨xb, 0, none⟩)), .iface 157 (.pointer (some ⟨xb, 0, none⟩))] w fun e w' => MadeN xb n0 w hb c f e w' := by
  obtain ⟨i0, hi0, hz0, hz1, hz2⟩ := info_parts Tryz.info138
  have hnew : ∀ w2 : World, (((w2.alloc (.cells (oArr (kN xb) true none) 146)).alloc (.cells #[.pointer (some ⟨w2.heap.size, 0, none⟩)] 138)).drew).heap[w2.heap.size + 1]? = some (.cells #[.pointer (some ⟨w2.heap.size, 0, none⟩)] 138 (0, 0)) := fun w2 => by
    have h := heap_alloc_new (w2.alloc (.cells (oArr (kN xb) true none) 146)) (.cells #[.pointer (some ⟨w2.heap.size, 0, none⟩)] 138)
    rw [show (w2.alloc (.cells (oArr (kN xb) true none) 146)).heap.size = w2.heap.size + 1 by simp] at h
    exact h
  replace hnew := Lib.hid hnew
  go_enter Tryz.func50, Tryz.ntmps50
  go_wp2_with (first | ((with_reducible show wpList _ _ _ (⟨_, .box 36 _, _, _, _, _⟩ :: _) _ _); refine wpList_box_blk rfl 36 _ rfl (vArr vN) rfl ?_; intro w1 hV hL hs; clear hs; have hH1 := hH.next hL) | (go_at_call 101; refine (room0 hb c f _ h1 hH1).mono ?_; rintro e w2 ⟨rfl, hb2⟩; replace hV := hV.next hb2; have hH2 := hH1.next hb2; have hcH := hH2.cellH))
  refine Ord.region (fun W => W.cell? ⟨hb, 4, none⟩ = some (.slice none 0 0) ∧ Blk W w.heap.size (vArr vN) 36) [] (by kernel_rfl) ⟨hcH 4, hV⟩ ?_
  intro hS
  refine Ord.tp 0 19 rfl rfl ?_
  refine Ord.tp 1 20 rfl rfl ?_
  refine Ord.tp 2 21 rfl rfl ?_
  refine Ord.tp 3 22 rfl rfl ?_
  refine Ord.tp 4 23 rfl rfl ?_
  refine Ord.tp 5 24 rfl rfl ?_
  refine Ord.tk 6 25 rfl rfl (yieldsIf_load_mid (by rfl) 36 _ rfl w.heap.size 0 rfl [.int .i64 2, .bool false, .float .f64 0, .string ByteArray.empty, .int .i64 0] _ (fun W hSW => range_all hSW.2) Tryz.underlying36 rfl Tryz.size36) ?_
  refine Ord.tp 7 26 rfl rfl ?_
  refine Ord.tp 8 27 rfl rfl ?_
  refine Ord.tp 9 28 rfl rfl ?_
  refine Ord.step (i := 10) rfl (by kernel_rfl) (by rfl) ?_
  intro K HK
  go_simp
  refine HK.out _ _ ?_
  clear HK
  refine Ord.kp ?_ ?_
  · exact ⟨(hH2.drewB.alloc _).cellH 4, (hV.drewB).alloc _⟩
  clear hS
  intro hS
  try simp only [List.setIfInBounds_toArray, List.set_cons_zero, List.set_cons_succ]
  refine Ord.step (i := 11) rfl (by kernel_rfl) (by rfl) ?_
  intro K HK
  go_simp
  refine HK.out _ _ ?_
  clear HK
  refine Ord.kp ?_ ?_
  · exact ⟨((hH2.drewB.alloc _).alloc _).cellH 4, ((hV.drewB).alloc _).alloc _⟩
  clear hS
  intro hS
  try simp only [List.setIfInBounds_toArray, List.set_cons_zero, List.set_cons_succ]
  refine Ord.step (i := 12) rfl (by kernel_rfl) (by rfl) ?_
  intro K HK
  refine wp_append_lies _ (.tmp 23) (.tmp 30) 100 rfl n0 138 i0 _ 1 _ Tryz.underlying100 hi0 hz0 hz1 hz2 rfl (by decide) (.slice none 0 0) 0 [] rfl ⟨rfl, .inl ⟨rfl, rfl⟩⟩ ⟨w2.heap.size + 1, 0, none⟩ 1 1 [.pointer (some ⟨w2.heap.size, 0, none⟩)] rfl rfl (World.news_of_block (cs := #[.pointer (some ⟨w2.heap.size, 0, none⟩)]) (t := 138) (fr := (0, 0)) (hnew.out w2)) (by simp [Value.oneCell']) (by decide) (by decide) (by decide) (by have := hL.size; have := hb2.size; simp; omega) _ rfl ?_
  intro g cp w4 hown4 hgr4 hat4 hlt4
  have hb4 := below_grown0 hgr4
  have hH4 := (show Blk (((w2.alloc _).alloc _)).drew hb _ 102 from ((hH2.alloc _).alloc _).drewB).next hb4
  have hV4 := (show Blk (((w2.alloc _).alloc _)).drew w.heap.size _ 36 from ((hV.alloc _).alloc _).drewB).next hb4
  refine HK.out _ _ ?_
  clear HK
  refine Ord.kp ?_ ?_
  · exact ⟨hH4.cellH 4, hV4⟩
  clear hS
  intro hS
  try simp only [List.setIfInBounds_toArray, List.set_cons_zero, List.set_cons_succ]
  refine Ord.tp 13 32 rfl rfl ?_
  refine Ord.tp 14 33 rfl rfl ?_
  refine Ord.step (i := 15) rfl (by kernel_rfl) (by rfl) ?_
  intro K HK
  have hcH4 := hH4.cellH
  have hfH4 := hH4.frozen
  go_simp
  refine HK.out _ _ ?_
  clear HK
  refine ⟨Ord.np (by kernel_rfl), ?_⟩
  try simp only [List.setIfInBounds_toArray, List.set_cons_zero, List.set_cons_succ]
  refine Ord.done (by kernel_rfl) ?_ _
  obtain ⟨hH5, hO5⟩ := only_setCell (o := 4) (v := .slice (some ⟨g, 0, none⟩) 1 cp) hH4
  have hO4 : Blk w4 w2.heap.size (oArr (kN xb) true none) 146 := (show Blk (((w2.alloc _).alloc _)).drew w2.heap.size _ 146 from ((Blk.new w2 (oArr (kN xb) true none) 146).alloc _).drewB).next hb4
  have hown5 : w4.ownsRow n0 138 1 (.slice (some ⟨g, 0, none⟩) 1 cp) 1 [.pointer (some ⟨w2.heap.size, 0, none⟩)] := hown4
  have hb14 : Below w.heap.size w w4 := by
    have h12 := hL.trans (hb2.mono hL.size)
    have h3 : Below w2.heap.size w2 (((w2.alloc (.cells (oArr (kN xb) true none) 146)).alloc (.cells #[.pointer (some ⟨w2.heap.size, 0, none⟩)] 138)).drew) := (((Below.refl _ w2).alloc (Nat.le_refl _) _).alloc (by simp) _).drew
    exact h12.trans ((h3.trans (hb4.mono h3.size)).mono h12.size)
  obtain ⟨W5, hW5⟩ : ∃ W5, W5 = w4.setCell ⟨hb, 4, none⟩ (.slice (some ⟨g, 0, none⟩) 1 cp) := ⟨_, rfl⟩
  rw [← hW5] at hH5 hO5 ⊢
  have hH6 : Blk W5 hb (hArr c f 10 0 (.slice (some ⟨g, 0, none⟩) 1 cp)) 102 := hH5
  have hc6 := hH6.cellH
  have h12 := hL.trans (hb2.mono hL.size)
  have HO := Lib.hid (And.intro hown5 (And.intro hO4 (And.intro hO5 (And.intro hb14 (And.intro hH4 h12)))))
  clear hW5 hH5 hown4 hown5 hO4 hO5 hcH4 hfH4 hcH hS hgr4 hat4 hb4 hH4 hV4 hlt4
  go_wp2
  go_ret2
  obtain ⟨hown5, hO4, hO5, hb14, hH4, h12⟩ := HO.out
  have hs1 := hb14.size
  have hs2 := h12.size
  have hg := ownsRow_ne hown5 hH4 (by decide)
  refine ⟨_, w2.heap.size, rfl, ⟨hH6, ownsRow_only hown5 hO5 (fun g' hg' => by simpa using hg g' hg'), hO4.only hO5 (by simpa using hO4.ne hH4 (by decide)), .inl ⟨rfl, rfl⟩, hnb, by omega, (hT.below hb14).only hO5 (by simp; omega) (by simp; omega), htn, by have := hO5.size; omega⟩, (Keeps.of_below hb14 hn).trans (Keeps.of_only hO5 (fun b hb' => ?_) (by omega))⟩
  obtain rfl : b = hb := by simpa using hb'
  exact ⟨hnb, .inr ⟨_, hH4, rfl⟩⟩
theorem info162 : (Tryz.prog.info? 162).map (fun i => (i.zero, i.size, i.bytes)) = some (some (.agg #[.string ⟨#[]⟩, .int .i64 0, .bool false, .float .f64 0, .string ⟨#[]⟩, .int .i64 0]), 6, 64) := by kernel_rfl
theorem Tryz.size158 : (Tryz.prog.info? 158).map (·.size) = some 1 := by kernel_rfl
theorem bs158 (q : ByteArray) (w : World) : (Instr.buildSlice 158 1 #[(0, .agg #[.string q, .int .i64 0, .bool false, .float .f64 0, .string ⟨#[]⟩, .int .i64 0])]).run Tryz.prog w = .ok (.slice (some ⟨w.heap.size, 0, none⟩) 1 1) (w.alloc (.cells #[.string q, .int .i64 0, .bool false, .float .f64 0, .string ⟨#[]⟩, .int .i64 0] 162)) := by kernel_rfl
/-- a name that can be exported, and its export, unbound -/
def okN (q : ByteArray) : Prop := q.size ≤ 1048576 ∧ uvalid q = true
def mkX (q : ByteArray) (h : okN q) : Ex := ⟨q, Dc.v0, h.2, by have := h.1; omega⟩
def xAll : List Ex → List Value
  | [] => []
  | x :: r => xC x ++ xAll r
theorem xAll_length : ∀ l, (xAll l).length = l.length * 6
  | [] => rfl
  | x :: r => by rw [xAll, List.length_append, xC_len, xAll_length r, List.length_cons]; omega
theorem xAll_app : ∀ l m, xAll (l ++ m) = xAll l ++ xAll m
  | [], m => rfl
  | x :: r, m => by rw [List.cons_append, xAll, xAll_app r m, xAll, List.append_assoc]
theorem xAll_get : ∀ (l : List Ex) (i j : Nat) (x : Ex), l[i]? = some x → j < 6 → (xAll l)[i * 6 + j]? = (xC x)[j]?
  | [], i, j, x, h, _ => by simp at h
  | y :: r, 0, j, x, h, hj => by
    obtain rfl : y = x := by simpa using h
    rw [xAll, Nat.zero_mul, Nat.zero_add, List.getElem?_append_left (by rw [xC_len]; exact hj)]
  | y :: r, i + 1, j, x, h, hj => by
    have h2 : r[i]? = some x := by simpa using h
    rw [xAll, List.getElem?_append_right (by rw [xC_len]; omega), xC_len, show (i + 1) * 6 + j - 6 = i * 6 + j by omega]
    exact xAll_get r i j x h2 hj
theorem exRow_of {W : World} {base n : Nat} {v : Value} {l : List Ex} (h : W.ownsRow base 162 6 v n (xAll l)) (hn : l.length = n) (h0 : 0 < n) : ∃ g cp C, v = .slice (some ⟨g, 0, none⟩) n cp ∧ base ≤ g ∧ ExRow W g C l := by
  obtain ⟨g, cp, rfl, hg, _⟩ := World.ownsRow.form h h0
  obtain ⟨hb, ⟨cur, h1, h2, h3, h4, h5⟩, hl⟩ := RowAt.of h
  refine ⟨g, cp, cur, rfl, hg, h1, ?_, fun i x hx j hj => ?_⟩
  · rw [h4, hn]; omega
  · have hi := (List.getElem?_eq_some_iff.1 hx).1
    have := xAll_get l i j x hx hj
    rw [← h5, List.getElem?_take, if_pos (by omega)] at this
    rw [← this]; simp
/-- slices.SortFunc of exports, or of none -/
theorem sortAny {W : World} {base n : Nat} {v : Value} {l : List Ex} (hT : Tabs W) (htn : Tryz.lays197_ren.g 3 < base ∧ Tryz.lays197_ren.g 4 < base) (h : W.ownsRow base 162 6 v n (xAll l)) (hn : l.length = n) (h0 : n = 0 → v = .slice none 0 0) (hl : n ≤ 1048576) :
    Calls Tryz.prog 89 #[v, .func (.func 90) #[] #[]] W fun e w' => e = .returned (.tuple #[]) ∧ ∃ a cap g l', v = .slice a n cap ∧ ExAt w' a g l' ∧ base ≤ g ∧ Only [g] W w' ∧ l'.Perm l ∧ ∀ (i j : Nat) (x y : Ex), i < j → l'[i]? = some x → l'[j]? = some y → ¬ cmpX y x < 0 := by
  by_cases hz : n = 0
  · obtain rfl := h0 hz
    subst hz
    have hle : l = [] := List.eq_nil_of_length_eq_zero hn
    subst hle
    refine (sort_nil W).mono ?_
    rintro e w' ⟨rfl, rfl⟩
    exact ⟨rfl, none, 0, base, [], rfl, .inl ⟨rfl, rfl⟩, Nat.le_refl _, Only.refl _ _, List.Perm.refl _, fun i j x y _ hx => by simp at hx⟩
  · obtain ⟨g, cp, C, rfl, hg, hR⟩ := exRow_of h hn (by omega)
    subst hn
    refine (sort_g cp hT (by omega) (by omega) hR (by omega)).mono ?_
    rintro e w' ⟨rfl, l', C', h1, h2, _, h4, h5⟩
    exact ⟨rfl, _, cp, g, l', rfl, .inr ⟨rfl, C', h1⟩, hg, h2, h4, h5⟩
/-- neighbours that differ, in order: strictly in order -/
theorem strict_of {l : List Ex} (h1 : ∀ (i j : Nat) (x y : Ex), i < j → l[i]? = some x → l[j]? = some y → ¬ cmpX y x < 0) (h2 : ∀ (i : Nat) (x y : Ex), l[i]? = some x → l[i + 1]? = some y → x.name ≠ y.name) : StrictX l := by
  have step : ∀ (i : Nat) (x y : Ex), l[i]? = some x → l[i + 1]? = some y → cmpX x y < 0 := fun i x y hx hy => by
    have h3 := h1 i (i + 1) x y (by omega) hx hy
    have h4 := cmpU_swap (unitsL x.name) (unitsL y.name)
    have h5 := cmpU_range (unitsL x.name) (unitsL y.name)
    unfold cmpX at h3 ⊢
    rcases h5 with h5 | h5 | h5
    · omega
    · exact absurd (unitsL_inj x.ok y.ok (cmpU_zero h5)) (h2 i x y hx hy)
    · omega
  intro i j x y hij hx hy
  obtain ⟨d, rfl⟩ : ∃ d, j = i + d + 1 := ⟨j - i - 1, by omega⟩
  induction d generalizing y with
  | zero => exact step i x y hx hy
  | succ d ih =>
    have hlt := (List.getElem?_eq_some_iff.1 hy).1
    obtain ⟨z, hz⟩ : ∃ z, l[i + d + 1]? = some z := ⟨_, List.getElem?_eq_getElem (by omega)⟩
    exact cmpU_trans (ih z (by omega) hz) (step (i + d + 1) z y hz hy)
section
variable {ops : Array Oper} {rest : List Oper} {o : Oper} {a : Act} {W : World} {Q : Exit → Act → World → Prop}
/-- an append of an export -/
theorem wpList_appX (hgd : o.guard = none) (s x : Operand) (ho : o.op = .call { callee := .builtin .append, args := #[s, x], argTypes := #[158, 158] })
    {base : Nat} {v : Value} {l : List Ex} {n : Nat} (hO : W.ownsRow base 162 6 v n (xAll l)) (hs : a.eval s = v) (ad : Nat) (z : Ex) (hx : a.eval x = .slice (some ⟨ad, 0, none⟩) 1 1) (hN : Blk W ad (xC z).toArray 162) (hsz : n + 1 ≤ 1099511627776) (hb : base ≤ W.heap.size)
    (h : ∀ v' W', W'.ownsRow base 162 6 v' (n + 1) (xAll (l ++ [z])) → Below base W W' → wpList Tryz.prog ops Q rest (a.put o.dst v') W') : wpList Tryz.prog ops Q (o :: rest) a W := by
  obtain ⟨i0, hi0, hz0, hz1, hz2⟩ := info_parts info162
  refine wpList_append_own_at _ hgd s x 158 ho base 162 i0 _ 6 64 Tryz.underlying158 hi0 hz0 hz1 hz2 rfl (by decide) v n (xAll l) hs hO ⟨ad, 0, none⟩ 1 1 (xC z) hx rfl ?_ (fun u hu => by have := xC_one z; simp only [List.all_toArray, List.all_eq_true] at this; exact this u hu) (by unfold maxLen; omega) (by omega) (by omega) ?_
  · intro j u hu
    rw [show (⟨ad, 0, none⟩ : Addr).add j = ⟨ad, j, none⟩ by unfold Addr.add; split <;> simp_all, hN.cell]
    simpa using hu
  · intro v' w' h2 hgr _ _
    refine h v' w' ?_ ((Below.refl base W).grown hgr hb (ownsBase hO))
    rw [xAll_app]
    simpa [xAll] using h2
/-- one cell is stored into a block of one cell -/
theorem wpList_store1 (hgd : o.guard = none) (ty : TypeId) (x y : Operand) (ho : o.op = .store ty x y) (b : Nat) (v old : Value) (t : TypeId) (hx : a.eval x = .pointer (some ⟨b, 0, none⟩)) (hy : a.eval y = v) (hB : Blk W b #[old] t) (hv : v.cells = #[v]) (h1 : v.oneCell' = true)
    (hsz : (Tryz.prog.info? ty).map (·.size) = some 1) (h : ∀ W', Blk W' b #[v] t → Only [b] W W' → wpList Tryz.prog ops Q rest (a.put o.dst undef) W') : wpList Tryz.prog ops Q (o :: rest) a W :=
  wpList_plain hgd fun _ hK => by
    have hw : storeVar ty ⟨b, 0, none⟩ v = storeVar ty ⟨b, 0, none⟩ (.agg #[v]) := by
      unfold storeVar
      rw [hv]
      rfl
    have hr : (storeVar ty ⟨b, 0, none⟩ v).run Tryz.prog W = .ok () (W.setCells b 0 [v]) := by
      rw [hw]
      exact run_storeVar_mid W b 0 ty #[v] (fun i hi' => by
        have hi0 : i = 0 := by simpa using hi'
        subst hi0
        exact ⟨by rw [hB.cell]; rfl, hB.frozen _⟩) hsz (by simp [h1])
    have hn := only_setCells (vs := [v]) (o := 0) hB
    unfold Oper.wp execOp
    simp only [ho, hx, hy, Instr.storeAt, Instr.sureAddr, Sem.run_bind, Sem.run_pure, Result.andThen_ok, hr]
    exact hK _ _ (h _ hn.1 hn.2)
end

end Go.Proofs.YtoalboilghgalaaGreatDoor

/- namespace.New. -/
namespace Go.Proofs.YtoalboilghgalaaGreatDoor
open Go.RowKit
open Go.Proofs.Dc (V Ds Ky)
attribute [local go_sem] run_store_float

attribute [local go_sem] Oper.semAt_some
def sMod : ByteArray := ⟨#[77, 111, 100, 117, 108, 101]⟩
def vMod : V := ⟨5, false, 0, sMod, 0⟩
def dMod : Ds := ⟨vMod, Dc.v0, Dc.v0, 1, 1, 1⟩
theorem tagMod : TagL [(kTag, dMod)] := ⟨dMod, rfl, rfl, ⟨by decide, by decide, by decide⟩, ⟨.inl rfl, .inl rfl, .inl ⟨by kernel_rfl, by kernel_rfl, by kernel_rfl, .inl rfl⟩⟩⟩
/-- names that a namespace can be made of -/
def NamesGood (qs : List ByteArray) : Prop := (∀ q ∈ qs, okN q) ∧ qs.Nodup
/-- how New ends -/
def NewOk (n0 : Nat) (w : World) (hb : Nat) (c f : Int) (qs : List ByteArray) (e : Ending) (w' : World) : Prop :=
  ∃ xb g xc a l ov ob tp, e = .returned (.tuple #[.int .i64 1, .nilIface]) ∧ StX n0 w' hb ov ob tp c f 0 (kN xb) false [(kTag, dMod)] ∧ XAt w' xb g xc a l ∧ (l.map Ex.name).Perm qs ∧ (∀ x ∈ l, x.val = Dc.v0 ∧ okN x.name) ∧ w.heap.size ≤ g ∧ Keeps n0 w w'
def NewBad (w : World) (qs : List ByteArray) (e : Ending) (w' : World) : Prop :=
  e = .returned (.tuple #[.int .i64 0, errV 5]) ∧ ¬ NamesGood qs ∧ Below w.heap.size w w'
def NewPost2 (n0 : Nat) (w : World) (hb : Nat) (c f : Int) (qs : List ByteArray) (e : Ending) (w' : World) : Prop := NewOk n0 w hb c f qs e w' ∨ NewBad w qs e w'
theorem zero160b : (1 : Nat) = 1 := rfl
theorem Blk.low {n : Nat} {W W' : World} {b : Nat} {C : Array Value} {t : TypeId} (h : Blk W b C t) (hb : Below n W W') (hn : b < n) : Blk W' b C t := (hb.block b hn).trans h
theorem new41 (n0 hb : Nat) (c f : Int) (w : World) (hn : n0 ≤ w.heap.size) (hnb : n0 ≤ hb) (hT : Tabs w) (htn : Tryz.lays197_ren.g 3 < n0 ∧ Tryz.lays197_ren.g 4 < n0) (h1 : 1 ≤ c) (hH : Blk w hb (hArr c f 10 0 (.slice none 0 0)) 102) (A : Option Addr) (qs : List ByteArray) (cap : Nat) (hA : NamesAt w.heap.size w A qs) (hqs : qs.length ≤ 1048576) :
    Calls Tryz.prog 41 #[.pointer (some ⟨hb, 0, none⟩), .slice A qs.length cap] w fun e w' => NewPost2 n0 w hb c f qs e w' := by
  have HT : Hid (∀ W, Below w.heap.size w W → Tabs W) := Lib.hid fun W h => hT.below h
  have HTN := Lib.hid htn
  have HH := Lib.hid hH
  have HA := Lib.hid hA
  have HB0 := Lib.hid (And.intro hn (And.intro hnb h1))
  obtain ⟨n, hqn⟩ : ∃ n, qs.length = n := ⟨_, rfl⟩
  rw [hqn] at hqs ⊢
  have HQ := Lib.hid hqn
  clear hT htn hH hA hn hnb h1 hqn
  go_enter Tryz.func41, Tryz.ntmps41
  go_wp2_with ((with_reducible show wpList _ _ _ (⟨_, .box 160 _, _, _, _, _⟩ :: _) _ _); refine wpList_box_blk rfl 160 _ rfl #[.slice none 0 0] rfl ?_; intro wb hXb hLb hsb)
  obtain ⟨xb, hxb⟩ : ∃ xb, w.heap.size = xb := ⟨_, rfl⟩
  rw [hxb] at hXb
  have HXB := Lib.hid hxb
  rw [hxb]
  have hsb1 : wb.heap.size = xb + 1 := by rw [hsb, hxb]
  clear hsb hxb
  go_loopg [16] n (fun fu s16 wr => ∃ (i : Nat) (l : List Ex) (v : Value), s16 = .int .i64 i ∧ i + fu = n ∧ l.map Ex.name = qs.take i ∧ (∀ x ∈ l, x.val = Dc.v0 ∧ okN x.name) ∧ Blk wr xb #[v] 160 ∧ wr.ownsRow (xb + 1) 162 6 v i (xAll l) ∧ (i = 0 → v = .slice none 0 0) ∧ Below w.heap.size w wr)
  case atStart => exact ⟨0, [], _, rfl, by omega, rfl, (fun _ h => by cases h), hXb, ⟨rfl, .inl ⟨rfl, rfl⟩⟩, fun _ => rfl, hLb⟩
  case round =>
    clear hXb hLb hsb1
    obtain ⟨i, l, v, rfl, hi, hln, hlv, hXw, hown, hv0, hbW⟩ := hrel
    have hsW := hbW.size
    rw [HXB.out] at hsW
    have hxlt := hXw.lt
    by_cases hlt : i < n
    · obtain ⟨q, hq⟩ : ∃ q, qs[i]? = some q := ⟨_, List.getElem?_eq_getElem (by rw [HQ.out]; exact hlt)⟩
      obtain ⟨b, off, rfl, _, _, hcq⟩ := (HA.out.below hbW) i q hq
      have HQI := Lib.hid hq
      have HO := Lib.hid hown
      have HLN := Lib.hid (And.intro hln hlv)
      obtain ⟨fu, rfl⟩ : ∃ fu, gk = fu + 1 := ⟨gk - 1, by omega⟩
      obtain ⟨i2, hi2⟩ : ∃ i2, i + 1 = i2 := ⟨_, rfl⟩
      have e1 : (i : Int) + 1 = (i2 : Int) := by omega
      have e2 := wrap_nat i2 (by omega)
      have e3 : (0 : Int) ≤ (i : Int) := by omega
      have e4 : (i : Int) < (n : Int) := by omega
      have hil : i + 1 ≤ 1099511627776 := by omega
      have HI3 := Lib.hid (show i2 + fu = n ∧ i + 1 = i2 from ⟨by omega, hi2⟩)
      clear hq hown hln hlv hi hi2 hv0
      by_cases hsz : q.size ≤ 1048576
      · have hszi : ¬ (1048576 : Int) < (q.size : Int) := by omega
        have hszn := hsz
        by_cases hval : uvalid q = true
        · have hok : okN q := ⟨hsz, hval⟩
          clear hsz
          go_wp2_with (first | (go_at_call 12; refine (valid_any q _ (HT.out _ hbW) (by omega)).mono ?_; rw [hval]; rintro e wv ⟨rfl, hbv⟩) | ((with_reducible show wpList _ _ _ (⟨_, .load 158 _, _, _, _, _⟩ :: _) _ _); refine wpList_load1 (by rfl) 158 _ rfl xb 0 rfl v (Tryz.isAgg158 _) ((hXw.next hbv).cell 0) ?_) | ((with_reducible show wpList _ _ _ (⟨_, .buildSlice 158 _ _, _, _, _, _⟩ :: _) _ _); refine wpList_bs_g rfl 158 162 _ _ rfl (xC (mkX q hok)).toArray (fun w => bs158 q w) ?_; intro wc hN hG; have hWC := hbv.trans (hG.below.mono hbv.size); have hszc := hWC.size) | ((with_reducible show wpList _ _ _ (⟨some 37, .call _, _, _, _, _⟩ :: _) _ _); refine wpList_appX rfl _ _ rfl (base := xb + 1) (l := l) (ownsRow_only HO.out (Only.of_below (S := []) hWC) (by simp)) rfl _ (mkX q hok) rfl hN (by omega) (by omega) ?_; intro v' wd hown2 hbd; have hXd := (hXw.next hWC).low hbd (by omega); obtain ⟨g2, cp2, hv2, hg2, _⟩ := World.ownsRow.form hown2 (by omega); subst hv2; have HOWN := Lib.hid hown2; clear hown2) | ((with_reducible show wpList _ _ _ (⟨_, .store 158 _ _, _, _, _, _⟩ :: _) _ _); refine wpList_store1 rfl 158 _ _ rfl xb _ v 160 rfl rfl hXd rfl rfl Tryz.size158 ?_; intro we hXe hOe))
          go_roundg fu
          case measure => omega
          case rel =>
            obtain ⟨h3, rfl⟩ := HI3.out
            refine ⟨i + 1, l ++ [mkX q hok], _, by go_num, h3, ?_, ?_, hXe, ?_, fun h => by omega, ?_⟩
            · rw [List.map_append, HLN.out.1, List.take_add_one, HQI.out]; rfl
            · intro x hx
              rcases List.mem_append.1 hx with hx | hx
              · exact HLN.out.2 x hx
              · obtain rfl := List.mem_singleton.1 hx; exact ⟨rfl, hok⟩
            · exact ownsRow_only HOWN.out hOe (fun g hg => by have := (ownsBase HOWN.out) g hg; simp; omega)
            · have h4 := hbW.trans (hWC.mono hbW.size)
              have h5 : Below w.heap.size w wd := h4.trans (hbd.mono (by rw [HXB.out]; omega))
              exact h5.trans (hOe.below _ h5.size (by rw [HXB.out]; simp))
        · have hvf : uvalid q = false := by simpa using hval
          go_wp2_with (first | (go_at_call 12; refine (valid_any q _ (HT.out _ hbW) (by omega)).mono ?_; rw [hvf]; rintro e wv ⟨rfl, hbv⟩))
          go_ret2
          exact .inr ⟨rfl, fun h => hval (h.1 q (List.mem_of_getElem? HQI.out)).2, hbW.trans (hbv.mono hbW.size)⟩
      · have hszi : (1048576 : Int) < (q.size : Int) := by omega
        go_wp2
        go_ret2
        exact .inr ⟨rfl, fun h => hsz (h.1 q (List.mem_of_getElem? HQI.out)).1, hbW⟩
    · obtain rfl : i = n := by omega
      have hlti : ¬ (i : Int) < (i : Int) := by omega
      have htk : qs.take i = qs := by rw [← HQ.out]; exact List.take_length
      rw [htk] at hln
      have hll : l.length = i := by rw [← HQ.out, ← hln, List.length_map]
      have HLN := Lib.hid (show l.map Ex.name = qs ∧ (∀ x ∈ l, x.val = Dc.v0 ∧ okN x.name) ∧ l.length = i from ⟨hln, hlv, hll⟩)
      have HS := Lib.hid (sortAny (HT.out _ hbW) ⟨by have := HTN.out.1; have := HB0.out.1; rw [HXB.out] at this; omega, by have := HTN.out.2; have := HB0.out.1; rw [HXB.out] at this; omega⟩ hown hll hv0 hqs)
      clear hown hln hlv hll hv0 htk
      go_wp2_with (first | ((with_reducible show wpList _ _ _ (⟨_, .load 158 _, _, _, _, _⟩ :: _) _ _); refine wpList_load1 (by rfl) 158 _ rfl xb 0 rfl v (Tryz.isAgg158 _) (hXw.cell 0) ?_) | (go_at_call 89; refine HS.out.mono ?_; rintro e ws ⟨rfl, a, cp, g, l', rfl, hEx, hgx, hOs, hpm, hso⟩; have hXs := hXw.only hOs (by simp; omega); have hbS := hbW.trans (hOs.below _ hbW.size (by rw [HXB.out]; simp; omega))))
      have hl2 : l'.length = i := by rw [hpm.length_eq]; exact HLN.out.2.2
      have HEX := Lib.hid hEx
      have HP := Lib.hid (And.intro hpm hso)
      have HL2 := Lib.hid hl2
      have HXS := Lib.hid hXs
      have hcx := hXs.cell 0
      have hwx : w.heap.size < xb + 1 := by rw [HXB.out]; omega
      clear hEx hpm hso hl2 hOs hXw
      go_loopg [9] i (fun fu s9 wr => ∃ (j : Nat), s9 = .int .i64 j ∧ 1 ≤ j ∧ j + fu = i + 1 ∧ (∀ (p : Nat) (x y : Ex), p + 1 < j → l'[p]? = some x → l'[p + 1]? = some y → x.name ≠ y.name) ∧ Below ws.heap.size ws wr)
      case atStart => exact ⟨1, rfl, Nat.le_refl _, by omega, fun p x y hp => by omega, Below.refl _ _⟩
      case round =>
        obtain ⟨j, rfl, hj1, hj, hne, hbR⟩ := hrel
        by_cases hlt2 : j < i
        · obtain ⟨j0, rfl⟩ : ∃ j0, j = j0 + 1 := ⟨j - 1, by omega⟩
          obtain ⟨x, hx⟩ : ∃ x, l'[j0]? = some x := ⟨_, List.getElem?_eq_getElem (by rw [HL2.out]; omega)⟩
          obtain ⟨y, hy⟩ : ∃ y, l'[j0 + 1]? = some y := ⟨_, List.getElem?_eq_getElem (by rw [HL2.out]; omega)⟩
          obtain rfl := HEX.out.sl hx
          have hER := HEX.out.next hbR
          obtain ⟨C9, hR9⟩ : ∃ C, ExRow wr g C l' := by
            rcases hER with ⟨h, _⟩ | ⟨_, C, h⟩
            · cases h
            · exact ⟨C, h⟩
          have hc1 : wr.cell? ⟨g, j0 * 6, none⟩ = some (.string x.name) := hR9.load hx 0 _ rfl
          have hc2 : wr.cell? ⟨g, (j0 + 1) * 6, none⟩ = some (.string y.name) := hR9.load hy 0 _ rfl
          have hcx2 := (HXS.out.next hbR).cell 0
          obtain ⟨j1, hj1e⟩ : ∃ j1, j0 + 1 = j1 := ⟨_, rfl⟩
          rw [hj1e] at hc2
          have HJ := Lib.hid hj1e
          obtain ⟨fu, rfl⟩ : ∃ fu, gk = fu + 1 := ⟨gk - 1, by omega⟩
          obtain ⟨j2, hj2⟩ : ∃ j2, j1 + 1 = j2 := ⟨_, rfl⟩
          have e0 : (j1 : Int) - 1 = (j0 : Int) := by omega
          have e00 := wrap_nat j0 (by omega)
          have e1 : (j1 : Int) + 1 = (j2 : Int) := by omega
          have e2 := wrap_nat j2 (by omega)
          have e3 : (0 : Int) ≤ (j1 : Int) := by omega
          have e33 : (0 : Int) ≤ (j0 : Int) := by omega
          have e4 : (j1 : Int) < (i : Int) := by omega
          have e44 : (j0 : Int) < (i : Int) := by omega
          have hcast : ((j0 + 1 : Nat) : Int) = (j1 : Int) := by omega
          rw [hcast]
          have HI3 := Lib.hid (show j2 + fu = i + 1 ∧ j1 + 1 = j2 from ⟨by omega, hj2⟩)
          have HNE := Lib.hid hne
          have HXY := Lib.hid (And.intro hx hy)
          clear hx hy hne hj hj1 hj2 hj1e hcast hER hR9
          by_cases hxy : x.name = y.name
          · go_wp2
            refine Ord.region (fun W => ((W.cell? ⟨xb, 0, none⟩ = some (.slice (some ⟨g, 0, none⟩) i cp) ∧ W.cell? ⟨g, j0 * 6, none⟩ = some (.string x.name)) ∧ W.cell? ⟨g, j1 * 6, none⟩ = some (.string y.name))) [] (by kernel_rfl) ⟨⟨hcx2, hc1⟩, hc2⟩ ?_
            intro hS
            refine Ord.tp 0 55 rfl rfl ?_
            refine Ord.tp 1 56 rfl rfl ?_
            refine Ord.tp 2 57 rfl rfl ?_
            refine Ord.tp 3 58 rfl rfl ?_
            refine Ord.tp 4 59 rfl rfl ?_
            refine Ord.tp 5 60 rfl rfl ?_
            refine Ord.tp 6 61 rfl rfl ?_
            refine Ord.tp 7 62 rfl rfl ?_
            refine Ord.tp 8 63 rfl rfl ?_
            refine Ord.tp 9 64 rfl rfl ?_
            refine Ord.tp 10 65 rfl rfl ?_
            refine Ord.tp 11 66 rfl rfl ?_
            refine Ord.tp 12 67 rfl rfl ?_
            refine Ord.tp 13 68 rfl rfl ?_
            refine Ord.tp 14 69 rfl rfl ?_
            refine Ord.tp 15 70 rfl rfl ?_
            refine Ord.tp 16 71 rfl rfl ?_
            refine Ord.step (i := 17) rfl (by kernel_rfl) (by rfl) ?_
            intro K HK
            go_simp
            refine HK.out _ _ ?_
            clear HK
            refine ⟨Ord.np (by kernel_rfl), ?_⟩
            try simp only [List.setIfInBounds_toArray, List.set_cons_zero, List.set_cons_succ]
            refine Ord.done (by kernel_rfl) ?_ _
            clear hS
            have hbeq : (x.name.toList == y.name.toList) = true := by rw [hxy]; simp
            go_wp2
            go_ret2
            refine .inr ⟨rfl, fun h => ?_, hbS.trans (hbR.mono hbS.size).drew⟩
            have hnd : (l'.map Ex.name).Nodup := (List.Perm.nodup_iff (by rw [← HLN.out.1]; exact HP.out.1.map _)).2 h.2
            obtain ⟨hx, hy⟩ := HXY.out
            obtain ⟨hxl, hxe⟩ := List.getElem?_eq_some_iff.1 hx
            obtain ⟨hyl, hye⟩ := List.getElem?_eq_some_iff.1 hy
            have := List.pairwise_iff_getElem.1 hnd j0 (j0 + 1) (by rw [List.length_map]; exact hxl) (by rw [List.length_map]; exact hyl) (by omega)
            rw [List.getElem_map, List.getElem_map, hxe, hye] at this
            exact this hxy
          · have hbn := bneq hxy
            go_wp2
            refine Ord.region (fun W => ((W.cell? ⟨xb, 0, none⟩ = some (.slice (some ⟨g, 0, none⟩) i cp) ∧ W.cell? ⟨g, j0 * 6, none⟩ = some (.string x.name)) ∧ W.cell? ⟨g, j1 * 6, none⟩ = some (.string y.name))) [] (by kernel_rfl) ⟨⟨hcx2, hc1⟩, hc2⟩ ?_
            intro hS
            refine Ord.tp 0 55 rfl rfl ?_
            refine Ord.tp 1 56 rfl rfl ?_
            refine Ord.tp 2 57 rfl rfl ?_
            refine Ord.tp 3 58 rfl rfl ?_
            refine Ord.tp 4 59 rfl rfl ?_
            refine Ord.tp 5 60 rfl rfl ?_
            refine Ord.tp 6 61 rfl rfl ?_
            refine Ord.tp 7 62 rfl rfl ?_
            refine Ord.tp 8 63 rfl rfl ?_
            refine Ord.tp 9 64 rfl rfl ?_
            refine Ord.tp 10 65 rfl rfl ?_
            refine Ord.tp 11 66 rfl rfl ?_
            refine Ord.tp 12 67 rfl rfl ?_
            refine Ord.tp 13 68 rfl rfl ?_
            refine Ord.tp 14 69 rfl rfl ?_
            refine Ord.tp 15 70 rfl rfl ?_
            refine Ord.tp 16 71 rfl rfl ?_
            refine Ord.step (i := 17) rfl (by kernel_rfl) (by rfl) ?_
            intro K HK
            go_simp
            refine HK.out _ _ ?_
            clear HK
            refine ⟨Ord.np (by kernel_rfl), ?_⟩
            try simp only [List.setIfInBounds_toArray, List.set_cons_zero, List.set_cons_succ]
            refine Ord.done (by kernel_rfl) ?_ _
            clear hS
            go_wp2
            go_roundg fu
            case measure => omega
            case rel =>
              obtain ⟨h3, rfl⟩ := HI3.out
              refine ⟨j1 + 1, by go_num, by omega, h3, fun p u v hp hu hv => ?_, hbR.drew⟩
              by_cases hpj : p = j0
              · subst hpj
                rw [HXY.out.1] at hu; cases hu
                rw [HXY.out.2] at hv; cases hv
                exact hxy
              · exact HNE.out p u v (by have := HJ.out; omega) hu hv
        · have hge : ¬ (j : Int) < (i : Int) := by omega
          have hcx2 := (HXS.out.next hbR).cell 0
          have hst : StrictX l' := strict_of (fun i j x y h1 h2 h3 => by have := HP.out.2 i j x y h1 h2 h3; omega) (fun p x y hx hy => hne p x y (by have := (List.getElem?_eq_some_iff.1 hy).1; rw [HL2.out] at this; omega) hx hy)
          have hbT := hbS.trans (hbR.mono hbS.size)
          have hXA : XAt wr xb g cp a l' := ⟨by rw [HL2.out]; exact HXS.out.next hbR, HEX.out.next hbR, by omega, hst, by rw [HL2.out]; exact hqs⟩
          have HXA := Lib.hid hXA
          have HC24 := Lib.hid (fun (W : World) (h : Tabs W) => str24 sMod (by kernel_rfl) W h)
          clear hne hst hXA hj hlt2
          go_wp2_with (first | ((with_reducible show wpList _ _ _ (⟨_, .load 158 _, _, _, _, _⟩ :: _) _ _); refine wpList_load1 (by rfl) 158 _ rfl xb 0 rfl _ (Tryz.isAgg158 _) hcx2 ?_) | (go_at_call 11; refine (null11 _).mono ?_; rintro e wn ⟨rfl, hbn⟩; have hbU := hbT.trans (hbn.mono hbT.size)) | (go_at_call 50; refine (addN n0 hb xb c f _ (Nat.le_trans HB0.out.1 hbU.size) HB0.out.2.1 (HT.out _ hbU) HTN.out HB0.out.2.2 (HH.out.next hbU)).mono ?_; rintro e wa ⟨ov, ob, rfl, sa, ka⟩; have kU := (Keeps.of_below hbU HB0.out.1).trans ka; have hXA := (HXA.out.next hbn).keeps ka) | (go_at_call 24; refine (HC24.out _ sa.tabs).mono ?_; rintro e wm ⟨rfl, hbm⟩; have sm := sa.below hbm; have km := kU.trans (Keeps.of_below hbm sa.sz); have hXM := hXA.next hbm) | (go_at_call 51; refine (lay_any sm kTag dMod (by kernel_rfl) (by decide)).mono ?_; rintro e wl ⟨rfl, tp, sl, kl⟩; have kL := km.trans kl; have hXL := hXM.keeps kl) | (go_at_call 91; refine (shut_any sl).mono ?_; rintro e wz ⟨rfl, sz, kz⟩))
          go_ret2
          refine .inl ⟨xb, g, cp, a, l', ov, ob, tp, rfl, sz, hXL.keeps kz, ?_, ?_, by omega, kL.trans kz⟩
          · rw [← HLN.out.1]; exact HP.out.1.map _
          · intro x hx; exact HLN.out.2.1 x (HP.out.1.mem_iff.1 hx)

end Go.Proofs.YtoalboilghgalaaGreatDoor

/- A namespace in its heap: what each door leaves, whatever the key. -/
namespace Go.Proofs.YtoalboilghgalaaGreatDoor
open Go.RowKit
open Go.Proofs.Dc (V Ds Ky)
attribute [local go_sem] run_store_float

theorem kgood_size {q : ByteArray} (h : kgood ⟨q, 0⟩ = true) : q.size + 2 ≤ 1099511627776 := by
  unfold kgood at h
  simp at h
  have := h.1
  omega
/-- a namespace alone in its heap -/
def NsAt (n0 : Nat) (W : World) (hb : Nat) (ov : Value) (ob : Nat) (xb g xc : Nat) (a : Option Addr) (l : List Ex) (F : Int) : Prop :=
  ∃ tp L, StX n0 W hb ov ob tp 1 F 0 (kN xb) false L ∧ TagL L ∧ XAt W xb g xc a l
/-- behind a door -/
def RdPost (n0 : Nat) (w : World) (hb : Nat) (ov : Value) (ob : Nat) (xb g xc : Nat) (a : Option Addr) (l : List Ex) (F : Int) (e : Ending) (w' : World) : Prop :=
  ∃ v F', e = .returned v ∧ NsAt n0 w' hb ov ob xb g xc a l F' ∧ Keeps n0 w w' ∧ F - 4 ≤ F' ∧ F' ≤ F
section
variable {n0 : Nat} {w : World} {hb : Nat} {ov : Value} {ob : Nat} {xb g xc : Nat} {a : Option Addr} {l : List Ex} {F : Int}
theorem rd_of {L : List (Ky × Ds)} {e : Ending} {w' : World} (hX : XAt w xb g xc a l) (hL : TagL L) (h : Door n0 w hb ov ob 1 F 0 (kN xb) false L e w') : RdPost n0 w hb ov ob xb g xc a l F e w' := by
  obtain ⟨v, tp, F', rfl, s, k, h1, h2⟩ := h
  exact ⟨v, F', rfl, ⟨tp, L, s, hL, hX.keeps k⟩, k, h1, h2⟩
theorem rd_def (h : NsAt n0 w hb ov ob xb g xc a l F) (hf : 3 < F ∧ F ≤ 9223372036854775807) (hln : ∀ x ∈ l, x.val.num < 2 ^ 64) (k : Ky) (d : Ds) (hnd : Nums d) :
    Calls Tryz.prog 14 #[.pointer (some ⟨hb, 0, none⟩), .int .i64 1, .agg (kArr k), .agg (dArr d)] w fun e w' => RdPost n0 w hb ov ob xb g xc a l F e w' := by
  obtain ⟨tp, L, s, hL, hX⟩ := h
  have hd : (0 : Int) ≤ 0 ∧ (0 : Int) < 8 := by decide
  by_cases hw : wrongD k d = 0
  · have hgk := (wrong_zero hw).1
    by_cases hk : k.sym = 0
    · obtain ⟨q, y⟩ := k
      simp only at hk
      subst hk
      have hq := kgood_size hgk
      cases hI : xIdx l q with
      | none => exact (xddef_none s hf hd hX q hq d hnd hw hI).mono fun e w' h => rd_of hX hL h
      | some i =>
        obtain ⟨z, hz, _⟩ := xIdx_lt hI
        by_cases h0 : z.val.kind = 0
        · exact (xddef_thr s hf hd hX q hq d hnd hw hI hz h0).mono fun e w' h => rd_of hX hL h
        · exact (xddef_some s hf hd hX q hq d hnd hw hI hz h0 (hln z (List.mem_of_getElem? hz))).mono fun e w' h => rd_of hX hL h
    · exact (xddef_sym s hf hd hX k d hnd hw hk hL.lt hL.nums hL.ok).mono fun e w' h => rd_of hX (hL.define hnd hw) h
  · exact (xddef_bad s hf hd k d hnd hw).mono fun e w' h => rd_of hX hL h
theorem rd_set (h : NsAt n0 w hb ov ob xb g xc a l F) (hf : 3 < F ∧ F ≤ 9223372036854775807) (k : Ky) (hg : kgood k = true) (v r : V) (hv : v.num < 2 ^ 64) (hr : r.num < 2 ^ 64) :
    Calls Tryz.prog 15 #[.pointer (some ⟨hb, 0, none⟩), .int .i64 1, .agg (kArr k), .agg (vArr v), .agg (vArr r)] w fun e w' => RdPost n0 w hb ov ob xb g xc a l F e w' := by
  obtain ⟨tp, L, s, hL, hX⟩ := h
  exact (xdset s hf (by decide) k v r hg hv hr).mono fun e w' h => rd_of hX hL h
theorem rd_del (h : NsAt n0 w hb ov ob xb g xc a l F) (hf : 3 < F ∧ F ≤ 9223372036854775807) (k : Ky) (hg : kgood k = true) :
    Calls Tryz.prog 17 #[.pointer (some ⟨hb, 0, none⟩), .int .i64 1, .agg (kArr k)] w fun e w' => RdPost n0 w hb ov ob xb g xc a l F e w' := by
  obtain ⟨tp, L, s, hL, hX⟩ := h
  have hd : (0 : Int) ≤ 0 ∧ (0 : Int) < 8 := by decide
  by_cases hk : k.sym = 0
  · obtain ⟨q, y⟩ := k
    simp only at hk
    subst hk
    have hq := kgood_size hg
    cases hI : xIdx l q with
    | none => exact (xddel_none s hf hd hX q hg hq hI).mono fun e w' h => rd_of hX hL h
    | some i => exact (xddel_some s hf hd hX q hg hq hI).mono fun e w' h => rd_of hX hL h
  · rcases hL.at k with h | h
    · exact (xddel_syms s hf hd hX k hg hk h).mono fun e w' h => rd_of hX hL h
    · exact (xddel_symn s hf hd hX k hg hk h).mono fun e w' h => rd_of hX hL h
theorem rd_proto (h : NsAt n0 w hb ov ob xb g xc a l F) (hf : 3 < F ∧ F ≤ 9223372036854775807) :
    Calls Tryz.prog 46 #[.pointer (some ⟨hb, 0, none⟩), .int .i64 1, .agg (vArr vN)] w fun e w' => RdPost n0 w hb ov ob xb g xc a l F e w' := by
  obtain ⟨tp, L, s, hL, hX⟩ := h
  exact (xdproto s hf (by decide)).mono fun e w' h => rd_of hX hL h
theorem rd_prev (h : NsAt n0 w hb ov ob xb g xc a l F) (hf : 3 < F ∧ F ≤ 9223372036854775807) :
    Calls Tryz.prog 18 #[.pointer (some ⟨hb, 0, none⟩), .int .i64 1] w fun e w' => RdPost n0 w hb ov ob xb g xc a l F e w' := by
  obtain ⟨tp, L, s, hL, hX⟩ := h
  exact (xdprev s hf (by decide) hX).mono fun e w' h => rd_of hX hL h
theorem NsAt.keeps {W W' : World} (h : NsAt n0 W hb ov ob xb g xc a l F) (hb' : Below W.heap.size W W') : NsAt n0 W' hb ov ob xb g xc a l F := by
  obtain ⟨tp, L, s, hL, hX⟩ := h
  exact ⟨tp, L, s.below hb', hL, hX.next hb'⟩
end

end Go.Proofs.YtoalboilghgalaaGreatDoor

/- namespace.of; Bind of a name that is not exported; num. -/
namespace Go.Proofs.YtoalboilghgalaaGreatDoor
open Go.RowKit
open Go.Proofs.Dc (V Ds Ky)
attribute [local go_sem] run_store_float

theorem num39 (e0 : Int) (w : World) : Calls Tryz.prog 39 #[.int .i64 e0] w fun e w' => e = .returned (.int .i64 e0) ∧ w = w' := by
  go_enter Tryz.func39, Tryz.ntmps39
  go_wp2
  go_ret
  exact ⟨rfl, rfl⟩
theorem ta157 (xb : Nat) (w : World) : (Instr.typeAssert (.iface 157 (.pointer (some ⟨xb, 0, none⟩))) 20 157 true).run Tryz.prog w = .ok (.tuple #[.pointer (some ⟨xb, 0, none⟩), .bool true]) w := by kernel_rfl
theorem slot_any {n0 : Nat} {w : World} {hb : Nat} {ov : Value} {ob : Nat} {tp : Option Addr} {cap fuel deep : Int} {kd : Kd} {ext : Bool} {L : List (Ky × Ds)} (s : StX n0 w hb ov ob tp cap fuel deep kd ext L) : Calls Tryz.prog 72 #[.pointer (some ⟨hb, 0, none⟩), .int .i64 1] w fun e w' => e = .returned kd.sv ∧ w = w' := by
  obtain ⟨g, c, rfl, hg⟩ := s.objs
  have hc := s.h.cellH
  have ho := s.o.cellO
  have cA := at_any s
  have cH := has_one s
  clear s
  go_enter Tryz.func72, Tryz.ntmps72
  go_wp2_with (first | (go_at_call 84; refine cA.mono ?_; rintro e w' ⟨rfl, rfl⟩) | (go_at_call 83; refine cH.mono ?_; rintro e w' ⟨rfl, rfl⟩))
  go_ret
  exact ⟨rfl, rfl⟩

theorem of_any {n0 : Nat} {w : World} {hb : Nat} {ov : Value} {ob : Nat} {tp : Option Addr} {cap fuel deep : Int} {xb : Nat} {ext : Bool} {L : List (Ky × Ds)} (s : StX n0 w hb ov ob tp cap fuel deep (kN xb) ext L) : Calls Tryz.prog 93 #[.pointer (some ⟨hb, 0, none⟩), .int .i64 1] w fun e w' => e = .returned (.tuple #[.pointer (some ⟨xb, 0, none⟩), .int .i64 0]) ∧ w = w' := by
  have c1 := class_any s
  have c2 := slot_any s
  have hsv : (kN xb).sv = .iface 157 (.pointer (some ⟨xb, 0, none⟩)) := rfl
  have hcl : (kN xb).cls = 10 := rfl
  rw [hsv] at c2
  rw [hcl] at c1
  have hTA := ta157 xb
  clear s hsv hcl
  go_enter Tryz.func93, Tryz.ntmps93
  go_wp2_with (first | (go_at_call 71; refine c1.mono ?_; rintro e w' ⟨rfl, rfl⟩) | (go_at_call 72; refine c2.mono ?_; rintro e w' ⟨rfl, rfl⟩))

  go_ret2
  exact ⟨rfl, rfl⟩

theorem bind_none {n0 : Nat} {w : World} {hb : Nat} {ov : Value} {ob : Nat} {tp : Option Addr} {cap fuel deep : Int} {xb : Nat} {ext : Bool} {L : List (Ky × Ds)} (s : StX n0 w hb ov ob tp cap fuel deep (kN xb) ext L) {g xc : Nat} {a : Option Addr} {l : List Ex} (hX : XAt w xb g xc a l) (q : ByteArray) (hq : q.size + 2 ≤ 1099511627776) (hI : xIdx l q = none) (v : V) (hx : v.num < 2 ^ 64) (hg : Dc.good uvalid v = true) (hl : lostV v = false) : Calls Tryz.prog 44 #[.pointer (some ⟨hb, 0, none⟩), .int .i64 1, .string q, .agg (vArr v)] w fun e w' => e = .returned (.int .i64 7) ∧ Below w.heap.size w w' := by
  have cF : ∀ W, Tabs W → XAt W xb g xc a l → Calls Tryz.prog 94 #[.pointer (some ⟨xb, 0, none⟩), .string q] W fun e w' => e = .returned (.pointer none) ∧ Below W.heap.size W w' := fun W h1 h2 => by
    have := find94 q h1 hq h2
    rw [hI] at this
    exact this
  have c1 := fun W (h : Below w.heap.size w W) => of_any (s.below h)
  have c2 := fun W (h : Below w.heap.size w W) => hcheck_any (s.below h) v hx
  simp only [hg, hl, if_true, if_false, Bool.false_eq_true] at c2
  have hXX := Lib.hid hX
  have hT := Lib.hid s.tabs
  clear hg hl s hX hx
  go_enter Tryz.func44, Tryz.ntmps44
  go_wp2_with (first | ((with_reducible show wpList _ _ _ (⟨_, .box 36 _, _, _, _, _⟩ :: _) _ _); refine wpList_box_blk rfl 36 _ rfl (vArr v) rfl ?_; intro w1 hV hL1 hs1; clear hs1) | (go_at_call 93; refine (c1 _ hL1).mono ?_; rintro e w' ⟨rfl, rfl⟩) | ((with_reducible show wpList _ _ _ (⟨_, .load 36 _, _, _, _, _⟩ :: _) _ _); refine wpList_load_blk rfl 36 _ rfl _ rfl hV Tryz.row36 Tryz.size36 ?_) | (go_at_call 43; refine (c2 _ hL1).mono ?_; rintro e w2 ⟨rfl, hb2⟩; have hL2 := more hL1 hb2) | (go_at_call 94; refine (cF _ (hT.out.below hL2) (hXX.out.next hL2)).mono ?_; rintro e w3 ⟨rfl, hb3⟩))
  go_ret
  exact ⟨rfl, more hL2 hb3⟩


end Go.Proofs.YtoalboilghgalaaGreatDoor

/- Bind of a name that is exported. -/
namespace Go.Proofs.YtoalboilghgalaaGreatDoor
open Go.RowKit
open Go.Proofs.Dc (V Ds Ky)
attribute [local go_sem] run_store_float

theorem laid_at : ∀ (vs : List Value) (C : Array Value) (o j : Nat), o + vs.length ≤ C.size → (laid C o vs)[j]? = if o ≤ j ∧ j < o + vs.length then vs[j - o]? else C[j]?
  | [], C, o, j, _ => by rw [if_neg (by simp only [List.length_nil]; omega)]; rfl
  | v :: r, C, o, j, h => by
    simp only [List.length_cons] at h ⊢
    rw [laid, laid_at r _ (o + 1) j (by simp; omega)]
    by_cases h1 : o + 1 ≤ j ∧ j < o + 1 + r.length
    · rw [if_pos h1, if_pos (by omega), show j - o = (j - (o + 1)) + 1 by omega]
      rfl
    · rw [if_neg h1]
      by_cases h2 : j = o
      · subst h2
        rw [if_pos (by omega)]
        simp [Array.getElem?_setIfInBounds]
        omega
      · rw [if_neg (by omega), Array.getElem?_setIfInBounds_ne (by omega)]
/-- an export bound anew -/
def Ex.bind (x : Ex) (v : V) : Ex := ⟨x.name, v, x.ok, x.le⟩
theorem ExRow.bind {W W' : World} {g i : Nat} {C : Array Value} {l : List Ex} {x : Ex} (h : ExRow W g C l) (hx : l[i]? = some x) (v : V) (hB : Blk W' g (laid C (i * 6 + 1) (vArr v).toList) 162) : ExRow W' g (laid C (i * 6 + 1) (vArr v).toList) (l.set i (x.bind v)) := by
  have hi := (List.getElem?_eq_some_iff.1 hx).1
  have hle := h.le
  have h5 : (vArr v).toList.length = 5 := rfl
  refine ⟨hB, by rw [laid_size]; simpa using hle, fun k y hy j hj => ?_⟩
  rw [laid_at _ _ _ _ (by rw [h5]; omega), h5]
  rw [List.getElem?_set] at hy
  by_cases hk : i = k
  · subst hk
    rw [if_pos rfl, if_pos hi] at hy
    cases hy
    match j, hj with
    | 0, _ => rw [if_neg (by omega)]; exact h.at_ i x hx 0 (by decide)
    | j + 1, hj =>
      rw [if_pos (by omega), show i * 6 + (j + 1) - (i * 6 + 1) = j by omega]
      rfl
  · rw [if_neg hk] at hy
    rw [if_neg (by omega)]
    exact h.at_ k y hy j hj
theorem StrictX.bind {l : List Ex} (h : StrictX l) {i : Nat} {x : Ex} (hx : l[i]? = some x) (v : V) : StrictX (l.set i (x.bind v)) := by
  have key : ∀ (k : Nat) (y : Ex), (l.set i (x.bind v))[k]? = some y → ∃ z, l[k]? = some z ∧ z.name = y.name := by
    intro k y hy
    rw [List.getElem?_set] at hy
    by_cases hk : i = k
    · subst hk
      rw [if_pos rfl] at hy
      split at hy
      · cases hy; exact ⟨x, hx, rfl⟩
      · cases hy
    · rw [if_neg hk] at hy
      exact ⟨y, hy, rfl⟩
  intro j k y z hjk hy hz
  obtain ⟨y', h1, e1⟩ := key j y hy
  obtain ⟨z', h2, e2⟩ := key k z hz
  have := h j k y' z' hjk h1 h2
  unfold cmpX at this ⊢
  rw [← e1, ← e2]
  exact this
theorem bind_some {n0 : Nat} {w : World} {hb : Nat} {ov : Value} {ob : Nat} {tp : Option Addr} {cap fuel deep : Int} {xb : Nat} {ext : Bool} {L : List (Ky × Ds)} (s : StX n0 w hb ov ob tp cap fuel deep (kN xb) ext L) {g xc : Nat} {a : Option Addr} {l : List Ex} (hX : XAt w xb g xc a l) (q : ByteArray) (hq : q.size + 2 ≤ 1099511627776) {i : Nat} {x : Ex} (hI : xIdx l q = some i) (hxx : l[i]? = some x) (v : V) (hnx : v.num < 2 ^ 64) (hg : Dc.good uvalid v = true) (hl : lostV v = false) : Calls Tryz.prog 44 #[.pointer (some ⟨hb, 0, none⟩), .int .i64 1, .string q, .agg (vArr v)] w fun e w' => e = .returned (.int .i64 0) ∧ XAt w' xb g xc a (l.set i (x.bind v)) ∧ Only [g] w w' ∧ ∃ C C', Blk w g C 162 ∧ Blk w' g C' 162 := by
  have cF : ∀ W, Tabs W → XAt W xb g xc a l → Calls Tryz.prog 94 #[.pointer (some ⟨xb, 0, none⟩), .string q] W fun e w' => e = .returned (.pointer (some ⟨g, i * 6 + 0, none⟩)) ∧ Below W.heap.size W w' := fun W h1 h2 => by
    have := find94 q h1 hq h2
    rw [hI] at this
    exact this
  have c1 := fun W (h : Below w.heap.size w W) => of_any (s.below h)
  have c2 := fun W (h : Below w.heap.size w W) => hcheck_any (s.below h) v hnx
  simp only [hg, hl, if_true, if_false, Bool.false_eq_true] at c2
  have hXX := Lib.hid hX
  have hT := Lib.hid s.tabs
  clear hg hl s hX hnx hI
  go_enter Tryz.func44, Tryz.ntmps44
  go_wp2_with (first | ((with_reducible show wpList _ _ _ (⟨_, .box 36 _, _, _, _, _⟩ :: _) _ _); refine wpList_box_blk rfl 36 _ rfl (vArr v) rfl ?_; intro w1 hV hL1 hs1; clear hs1) | (go_at_call 93; refine (c1 _ hL1).mono ?_; rintro e w' ⟨rfl, rfl⟩) | ((with_reducible show wpList _ _ _ (⟨some 23, .load 36 _, _, _, _, _⟩ :: _) _ _); refine wpList_load_blk rfl 36 _ rfl _ rfl hV Tryz.row36 Tryz.size36 ?_) | (go_at_call 43; refine (c2 _ hL1).mono ?_; rintro e w2 ⟨rfl, hb2⟩; have hL2 := more hL1 hb2) | (go_at_call 94; refine (cF _ (hT.out.below hL2) (hXX.out.next hL2)).mono ?_; rintro e w3 ⟨rfl, hb3⟩; have hL3 := more hL2 hb3; have hV3 := (hV.next hb2).next hb3; have hX3 := hXX.out.next hL3; have hR3 := hX3.row; rcases hR3 with ⟨_, h0⟩ | ⟨ha, C, hC⟩; (exfalso; rw [h0] at hxx; simp at hxx); have hCb := hC.blk; have hCl : i * 6 + 1 + 5 ≤ C.size := by have := (List.getElem?_eq_some_iff.1 hxx).1; have := hC.le; omega) | ((with_reducible show wpList _ _ _ (⟨some 34, .load 36 _, _, _, _, _⟩ :: _) _ _); refine wpList_load_blk rfl 36 _ rfl _ rfl hV3 Tryz.row36 Tryz.size36 ?_) | ((with_reducible show wpList _ _ _ (⟨_, .store 36 _ _, _, _, _, _⟩ :: _) _ _); refine wpList_store_part rfl 36 _ _ rfl g (i * 6 + 1) (vArr v) C 162 rfl rfl hCb Tryz.size36 hCl (vArr_one _) ?_; intro wz hBz hOz))
  go_ret
  have hO : Only [g] w wz := (Only.of_below (S := [g]) hL3).trans hOz
  obtain ⟨_, h0⟩ | ⟨_, C0, hC0⟩ := hXX.out.row
  · exfalso; rw [h0] at hxx; simp at hxx
  · refine ⟨rfl, ⟨?_, .inr ⟨ha, _, hC.bind hxx v hBz⟩, hXX.out.ne, hXX.out.strict.bind hxx v, by simpa using hXX.out.small⟩, hO, C0, _, hC0.blk, hBz⟩
    rw [List.length_set]
    exact hX3.blk.only hOz (by simpa using hXX.out.ne)


end Go.Proofs.YtoalboilghgalaaGreatDoor

/- What holds at the head of the law's loop. -/
namespace Go.Proofs.YtoalboilghgalaaGreatDoor
open Go.RowKit
open Go.Proofs.Dc (V Ds Ky)
attribute [local go_sem] run_store_float

theorem StX.only_free {n0 : Nat} {W W' : World} {hb : Nat} {ov : Value} {ob : Nat} {tp : Option Addr} {cap fuel deep : Int} {kd : Kd} {ext : Bool} {L : List (Ky × Ds)} {b : Nat} {o : Obj} (s : StX n0 W hb ov ob tp cap fuel deep kd ext L) (hW : W.heap[b]? = some o) (hm : Mine o = false) (ho : Only [b] W W') (hn : n0 ≤ b) : StX n0 W' hb ov ob tp cap fuel deep kd ext L := by
  have hnb : ∀ c C t, Blk W c C t → Mine (.cells C t) = true → c ≠ b := fun c C t h1 h2 e => by
    subst e
    unfold Blk at h1; rw [h1] at hW; cases hW; rw [h2] at hm; cases hm
  refine ⟨s.h.only ho (by simpa using hnb _ _ _ s.h rfl), ownsRow_only s.row ho (fun g hg => ?_), s.o.only ho (by simpa using hnb _ _ _ s.o rfl), ?_, s.hn, s.on,
    s.tabs.only ho (by have := s.tn; simp; omega) (by have := s.tn; simp; omega), s.tn, Nat.le_trans s.sz ho.size⟩
  · obtain ⟨_, C, hC⟩ := ownsRow_at s.row g hg
    simpa using hnb _ _ _ hC rfl
  · rcases s.tab with h | ⟨tb, mb, ev, h1, h2, h3, h4, h5⟩
    · exact .inl h
    · refine .inr ⟨tb, mb, ev, h1, h2, h3, h4.only ho (by simpa using hnb _ _ _ h4.tab rfl) ?_ (fun g hg => ?_), h5⟩
      · intro hb'
        obtain rfl : mb = b := by simpa using hb'
        obtain ⟨es, c, he, hes⟩ := h4.map
        rw [he] at hW; cases hW
        rw [hes.mine (by simpa using h5) c] at hm; cases hm
      · obtain ⟨_, C, hC⟩ := ownsRow_at h4.row g hg
        simpa using hnb _ _ _ hC rfl
/-- the map tells what the exports are bound to -/
structure LinkL (l : List Ex) (M : List (ByteArray × V)) : Prop where
  num : ∀ x ∈ l, x.val.num < 2 ^ 64
  non : ∀ x ∈ l, x.val.kind = 0 → getM M x.name = none
  som : ∀ x ∈ l, ¬ x.val.kind = 0 → getM M x.name = some x.val
theorem cmpX_self {x y : Ex} (h : x.name = y.name) : ¬ cmpX x y < 0 := by unfold cmpX; rw [h, cmpU_refl]; omega
theorem LinkL.bind {l : List Ex} {M : List (ByteArray × V)} (h : LinkL l M) (hs : StrictX l) {i : Nat} {x : Ex} (hx : l[i]? = some x) {v : V} (hv : v.num < 2 ^ 64) (hk : ¬ v.kind = 0) : LinkL (l.set i (x.bind v)) (setM M x.name v) := by
  have key : ∀ y ∈ l.set i (x.bind v), y = x.bind v ∨ (y ∈ l ∧ y.name ≠ x.name) := by
    intro y hy
    obtain ⟨j, hj⟩ := List.mem_iff_getElem?.1 hy
    rw [List.getElem?_set] at hj
    by_cases e : i = j
    · subst e
      rw [if_pos rfl, if_pos (List.getElem?_eq_some_iff.1 hx).1] at hj
      cases hj; exact .inl rfl
    · rw [if_neg e] at hj
      refine .inr ⟨List.mem_of_getElem? hj, fun hn => ?_⟩
      rcases Nat.lt_or_gt_of_ne e with h1 | h1
      · exact cmpX_self hn.symm (hs i j x y h1 hx hj)
      · exact cmpX_self hn (hs j i y x h1 hj hx)
  refine ⟨fun y hy => ?_, fun y hy hy0 => ?_, fun y hy hy0 => ?_⟩
  · rcases key y hy with rfl | ⟨h1, _⟩
    · exact hv
    · exact h.num y h1
  · rcases key y hy with rfl | ⟨h1, h2⟩
    · exact absurd hy0 hk
    · rw [getM_set, if_neg h2]; exact h.non y h1 hy0
  · rcases key y hy with rfl | ⟨h1, h2⟩
    · rw [getM_set]; exact if_pos rfl
    · rw [getM_set, if_neg h2]; exact h.som y h1 hy0
theorem names_set {l : List Ex} {i : Nat} {x : Ex} (hx : l[i]? = some x) (v : V) : (l.set i (x.bind v)).map Ex.name = l.map Ex.name := by
  rw [List.map_set]
  apply List.ext_getElem?
  intro j
  rw [List.getElem?_set]
  by_cases e : i = j
  · subst e
    rw [if_pos rfl, List.getElem?_map, hx]
    simp [(List.getElem?_eq_some_iff.1 hx).1, Ex.bind]
  · rw [if_neg e]
theorem good_kind {v : V} (h : Dc.good uvalid v = true) : ¬ v.kind = 0 := by
  intro hk
  simp [Dc.good, Dc.vin, hk] at h
/-- what holds at the head of the loop -/
structure RdInv (n0 : Nat) (w0 W : World) (hb : Nat) (ov : Value) (ob : Nat) (xb g xc : Nat) (a : Option Addr) (ns : List ByteArray) (b5 : Nat) (rv : V) (mb : Nat) (l : List Ex) (M : List (ByteArray × V)) (F : Int) : Prop where
  at_ : NsAt n0 W hb ov ob xb g xc a l F
  bel : Below n0 w0 W
  rvb : Blk W b5 (vArr rv) 36
  map : SMap W mb M
  nm : l.map Ex.name = ns
  lk : LinkL l M
  lo : n0 ≤ mb ∧ n0 ≤ g
  n : n0 ≤ w0.heap.size
section
variable {n0 : Nat} {w0 W W' : World} {hb : Nat} {ov : Value} {ob : Nat} {xb g xc : Nat} {a : Option Addr} {ns : List ByteArray} {b5 : Nat} {rv : V} {mb : Nat} {l : List Ex} {M : List (ByteArray × V)} {F : Int}
theorem RdInv.next (h : RdInv n0 w0 W hb ov ob xb g xc a ns b5 rv mb l M F) (hb' : Below W.heap.size W W') : RdInv n0 w0 W' hb ov ob xb g xc a ns b5 rv mb l M F :=
  ⟨h.at_.keeps hb', h.bel.trans (hb'.mono (Nat.le_trans h.n h.bel.size)), h.rvb.next hb', h.map.next hb', h.nm, h.lk, h.lo, h.n⟩
theorem RdInv.rd (h : RdInv n0 w0 W hb ov ob xb g xc a ns b5 rv mb l M F) {F' : Int} (ha : NsAt n0 W' hb ov ob xb g xc a l F') (k : Keeps n0 W W') : RdInv n0 w0 W' hb ov ob xb g xc a ns b5 rv mb l M F' :=
  ⟨ha, h.bel.trans k.below, h.rvb.keeps k rfl, h.map.keeps k, h.nm, h.lk, h.lo, h.n⟩
/-- an export is bound -/
theorem RdInv.bind {tp : Option Addr} {L : List (Ky × Ds)} (h : RdInv n0 w0 W hb ov ob xb g xc a ns b5 rv mb l M F) (s : StX n0 W hb ov ob tp 1 F 0 (kN xb) false L) (hL : TagL L) {l' : List Ex} (hX : XAt W' xb g xc a l') (ho : Only [g] W W') {C : Array Value} (hB : Blk W g C 162) : NsAt n0 W' hb ov ob xb g xc a l' F ∧ Below n0 w0 W' ∧ Blk W' b5 (vArr rv) 36 ∧ SMap W' mb M :=
  ⟨⟨tp, L, s.free hB rfl ho h.lo.2, hL, hX⟩, h.bel.trans (ho.below _ (Nat.le_trans h.n h.bel.size) (by simpa using h.lo.2)), h.rvb.only ho (by simpa using h.rvb.ne hB (by decide)), h.map.only ho (by simpa using h.map.ne hB)⟩
theorem NsAt.map (h : NsAt n0 W hb ov ob xb g xc a l F) (hm : SMap W mb M) (ho : Only [mb] W W') (hn : n0 ≤ mb) : NsAt n0 W' hb ov ob xb g xc a l F := by
  obtain ⟨tp, L, s, hL, hX⟩ := h
  have hm0 := hm
  obtain ⟨es, c, h1, h2⟩ := hm
  refine ⟨tp, L, s.only_free h1 (SMap.mine h2 c) ho hn, hL, hX.blk.only ho (by simpa using fun e => hm0.ne hX.blk e.symm), ?_, hX.ne, hX.strict, hX.small⟩
  rcases hX.row with h | ⟨h, C, hC⟩
  · exact .inl h
  · exact .inr ⟨h, C, hC.only ho (by simpa using fun e => hm0.ne hC.blk e.symm)⟩
theorem idx_none_iff (q : ByteArray) : xIdx l q = none ↔ q ∉ l.map Ex.name := by
  constructor
  · intro h hm
    obtain ⟨x, hx, rfl⟩ := List.mem_map.1 hm
    unfold xIdx at h
    rw [List.findIdx?_eq_none_iff] at h
    simpa using h x hx
  · intro h
    exact xIdx_none fun x hx e => h (List.mem_map.2 ⟨x, hx, e⟩)
end

end Go.Proofs.YtoalboilghgalaaGreatDoor

/- A namespace in its heap: the keys, HasProperty, Get, as the law asks them. -/
namespace Go.Proofs.YtoalboilghgalaaGreatDoor
open Go.RowKit
open Go.Proofs.Dc (V Ds Ky)
attribute [local go_sem] run_store_float

/-- the keys that the law sees -/
def lawKeys (l : List Ex) : List Ky := l.map xKey ++ [kTag]
theorem lawKeys_length (l : List Ex) : (lawKeys l).length = l.length + 1 := by simp [lawKeys]
theorem lawKeys_lt {l : List Ex} {i : Nat} {x : Ex} (h : l[i]? = some x) : (lawKeys l)[i]? = some (xKey x) := by
  unfold lawKeys
  rw [List.getElem?_append_left (by rw [List.length_map]; exact (List.getElem?_eq_some_iff.1 h).1), List.getElem?_map, h]; rfl
theorem lawKeys_tag (l : List Ex) : (lawKeys l)[l.length]? = some kTag := by
  unfold lawKeys
  rw [List.getElem?_append_right (by simp)]; simp
theorem kgood_x {x : Ex} (h : okN x.name) : kgood (xKey x) = true := by
  unfold kgood xKey
  simp [h.1, h.2]
theorem xIdx_at {l : List Ex} (hs : StrictX l) {i : Nat} {x : Ex} (hx : l[i]? = some x) : xIdx l x.name = some i := xIdx_some hs hx rfl
theorem xIdx_get {l : List Ex} {q : ByteArray} {i : Nat} {x : Ex} (hs : StrictX l) (hi : xIdx l q = some i) (hx : x ∈ l) (hq : x.name = q) : l[i]? = some x := by
  obtain ⟨j, hj⟩ := List.mem_iff_getElem?.1 hx
  have := xIdx_some hs hj hq
  rw [hi] at this
  cases this; exact hj
section
variable {n0 : Nat} {w : World} {hb : Nat} {ov : Value} {ob : Nat} {xb g xc : Nat} {a : Option Addr} {l : List Ex} {F : Int}
theorem rd_keys (h : NsAt n0 w hb ov ob xb g xc a l F) (hf : 3 < F ∧ F ≤ 9223372036854775807) :
    Calls Tryz.prog 20 #[.pointer (some ⟨hb, 0, none⟩), .int .i64 1] w fun e w' => ∃ v, e = .returned (.tuple #[v, .nilIface]) ∧ KeysAt w' 0 v (lawKeys l) ∧ NsAt n0 w' hb ov ob xb g xc a l (F - 1) ∧ Keeps n0 w w' := by
  obtain ⟨tp, L, s, hL, hX⟩ := h
  refine (xdkeys s hf (by decide) hX hL.good hL.le).mono ?_
  rintro e w' ⟨v, tp', rfl, hk, s', k'⟩
  refine ⟨v, rfl, ?_, ⟨tp', L, s', hL, hX.keeps k'⟩, k'⟩
  have : nsKeys l L = lawKeys l := by unfold nsKeys lawKeys symsOf; rw [hL.sort]; rfl
  rw [← this]; exact hk
theorem rd_has {i : Nat} {k : Ky} (h : NsAt n0 w hb ov ob xb g xc a l F) (hf : 3 < F ∧ F ≤ 9223372036854775807) (hk : (lawKeys l)[i]? = some k) (hok : ∀ x ∈ l, okN x.name) :
    Calls Tryz.prog 47 #[.pointer (some ⟨hb, 0, none⟩), .int .i64 1, .agg (kArr k)] w fun e w' => e = .returned (.tuple #[.bool true, .nilIface]) ∧ NsAt n0 w' hb ov ob xb g xc a l (F - 1) ∧ Keeps n0 w w' := by
  obtain ⟨tp, L, s, hL, hX⟩ := h
  have hd : (0 : Int) ≤ 0 ∧ (0 : Int) < 8 := by decide
  have hm := List.mem_of_getElem? hk
  unfold lawKeys at hm
  rcases List.mem_append.1 hm with hm | hm
  · obtain ⟨x, hx, rfl⟩ := List.mem_map.1 hm
    have hg := kgood_x (hok x hx)
    obtain ⟨j, hj⟩ := List.mem_iff_getElem?.1 hx
    refine (xdhas_some s hf hd hX x.name hg x.le (xIdx_at hX.strict hj)).mono ?_
    rintro e w' ⟨tp', rfl, s', k'⟩
    exact ⟨rfl, ⟨tp', L, s', hL, hX.keeps k'⟩, k'⟩
  · obtain rfl := List.mem_singleton.1 hm
    refine (xdhas_tag s hf hd hX kTag (by kernel_rfl) (by decide) hL.tag).mono ?_
    rintro e w' ⟨tp', rfl, s', k'⟩
    exact ⟨rfl, ⟨tp', L, s', hL, hX.keeps k'⟩, k'⟩
theorem rd_get_some {x : Ex} (h : NsAt n0 w hb ov ob xb g xc a l F) (hf : 3 < F ∧ F ≤ 9223372036854775807) (hx : x ∈ l) (hok : okN x.name) (rv : V) (hrn : rv.num < 2 ^ 64) (hw : wrongV [rv] = 0) (h0 : ¬ x.val.kind = 0) :
    Calls Tryz.prog 21 #[.pointer (some ⟨hb, 0, none⟩), .int .i64 1, .agg (kArr (xKey x)), .agg (vArr rv)] w fun e w' => e = .returned (.tuple #[.agg (vArr x.val), .nilIface]) ∧ NsAt n0 w' hb ov ob xb g xc a l (F - 1) ∧ Keeps n0 w w' := by
  obtain ⟨tp, L, s, hL, hX⟩ := h
  obtain ⟨j, hj⟩ := List.mem_iff_getElem?.1 hx
  refine (xdget_some s hf (by decide) hX x.name (kgood_x hok) x.le rv hrn hw (xIdx_at hX.strict hj) hj h0).mono ?_
  rintro e w' ⟨tp', rfl, s', k'⟩
  exact ⟨rfl, ⟨tp', L, s', hL, hX.keeps k'⟩, k'⟩
theorem rd_get_thr {x : Ex} (h : NsAt n0 w hb ov ob xb g xc a l F) (hf : 3 < F ∧ F ≤ 9223372036854775807) (hx : x ∈ l) (hok : okN x.name) (rv : V) (hrn : rv.num < 2 ^ 64) (hw : wrongV [rv] = 0) (h0 : x.val.kind = 0) :
    Calls Tryz.prog 21 #[.pointer (some ⟨hb, 0, none⟩), .int .i64 1, .agg (kArr (xKey x)), .agg (vArr rv)] w fun e w' => ∃ b, e = .returned (.tuple #[.agg (vArr Dc.v0), errT b]) ∧ Blk w' b thrArr 206 ∧ NsAt n0 w' hb ov ob xb g xc a l (F - 1) ∧ Keeps n0 w w' := by
  obtain ⟨tp, L, s, hL, hX⟩ := h
  obtain ⟨j, hj⟩ := List.mem_iff_getElem?.1 hx
  refine (xdget_thr s hf (by decide) hX x.name (kgood_x hok) x.le rv hrn hw (xIdx_at hX.strict hj) hj h0).mono ?_
  rintro e w' ⟨b, tp', rfl, _, hbb, s', k'⟩
  exact ⟨b, rfl, hbb, ⟨tp', L, s', hL, hX.keeps k'⟩, k'⟩
theorem NsAt.strict (h : NsAt n0 w hb ov ob xb g xc a l F) : StrictX l := by
  obtain ⟨tp, L, s, hL, hX⟩ := h; exact hX.strict
end
theorem below_grw {w w' : World} (h : Grw w w') : Below w.heap.size w w' := h.below

end Go.Proofs.YtoalboilghgalaaGreatDoor

/- The law's loops: what stays as it is when a fresh block is written. -/
namespace Go.Proofs.YtoalboilghgalaaGreatDoor
open Go.RowKit
open Go.Proofs.Dc (V Ds Ky)
attribute [local go_sem] run_store_float

theorem KeysAt.only {W W' : World} {b c : Nat} {v : Value} {l : List Ky} {C : Array Value} {t : TypeId} (h : KeysAt W b v l) (hB : Blk W c C t) (ht : t ≠ 40) (ho : Only [c] W W') : KeysAt W' b v l := by
  rcases h with h | ⟨g, cp, r, h1, h2, h3⟩
  · exact .inl h
  · exact .inr ⟨g, cp, r, h1, h2, h3.only ho (by simpa using h3.ne hB (Ne.symm ht))⟩
theorem RdInv.free {n0 : Nat} {w0 W W' : World} {hb : Nat} {ov : Value} {ob : Nat} {xb g xc : Nat} {a : Option Addr} {ns : List ByteArray} {b5 : Nat} {rv : V} {mb : Nat} {l : List Ex} {M : List (ByteArray × V)} {F : Int} (h : RdInv n0 w0 W hb ov ob xb g xc a ns b5 rv mb l M F) {b : Nat} {C : Array Value} (hB : Blk W b C 36) (ho : Only [b] W W') (hn : n0 ≤ b) (hne : b ≠ b5) : RdInv n0 w0 W' hb ov ob xb g xc a ns b5 rv mb l M F := by
  obtain ⟨tp, L, s, hL, hX⟩ := h.at_
  refine ⟨⟨tp, L, s.free hB rfl ho hn, hL, hX.blk.only ho (by simpa using hX.blk.ne hB (by decide)), ?_, hX.ne, hX.strict, hX.small⟩, h.bel.trans (ho.below _ (Nat.le_trans h.n h.bel.size) (by simpa using hn)), h.rvb.only ho (by simpa using Ne.symm hne), h.map.only ho (by simpa using h.map.ne hB), h.nm, h.lk, h.lo, h.n⟩
  rcases hX.row with h1 | ⟨h1, C', hC⟩
  · exact .inl h1
  · exact .inr ⟨h1, C', hC.only ho (by simpa using hC.blk.ne hB (by decide))⟩
theorem neqT (w : World) : (binOp .neq 83 (.agg fArrT) (.agg #[.int .i64 0, .int .i64 5, .int .i64 0, .bool false, .float .f64 0, .string ⟨#[]⟩, .int .i64 0])).run Tryz.prog w = .ok (.bool false) w := by kernel_rfl

end Go.Proofs.YtoalboilghgalaaGreatDoor
