/- Lemmas for this claim, in parts: Slaw0, Slaw1, Slaw2. -/
import Derived.Test.YtoalboilghgalaaGreatDoorC45
import Derived.Test.YtoalboilghgalaaGreatDoorC47
import Derived.Test.YtoalboilghgalaaGreatDoorC01
import Derived.Deep.DeepCutAuto
set_option maxRecDepth 100000
set_option maxHeartbeats 4000000
set_option linter.unusedVariables false
set_option linter.unusedSimpArgs false
/- StrobjTells, the law: what its walk leans on. -/
namespace Go.Proofs.YtoalboilghgalaaGreatDoor
open Go.RowKit
open Go.Proofs.Dc (V Ds Ky)

theorem keq_same (k : Ky) : keq k k = true := keq_refl k
theorem neq_kk (s : ByteArray) (i : Int) (w : World) : (binOp .neq 40 (.agg #[.string s, .int .i64 i]) (.agg #[.string s, .int .i64 i])).run Tryz.prog w = .ok (.bool false) w := by
  have h := eql_kk s i s i w
  rw [run_eql_struct] at h
  rw [run_neq_struct]
  revert h
  cases (Op.equalIn 10000 40 (.agg #[.string s, .int .i64 i]) (.agg #[.string s, .int .i64 i])).run Tryz.prog w with
  | ok b w' =>
    intro h
    simp only [Result.andThen, keq_refl, Result.ok.injEq, Value.bool.injEq] at h ⊢
    obtain ⟨rfl, rfl⟩ := h
    exact ⟨rfl, rfl⟩
  | _ => intro h; simp [Result.andThen] at h
theorem veq_str (q : ByteArray) : veq (vStr q) (vStr q) = true := by
  have : ford 0 0 = true := by decide +kernel
  simp [veq, vStr, this]
theorem neq_vs (q : ByteArray) (w : World) : (binOp .neq 36 (.agg #[.int .i64 5, .bool false, .float .f64 0, .string q, .int .i64 0]) (.agg #[.int .i64 5, .bool false, .float .f64 0, .string q, .int .i64 0])).run Tryz.prog w = .ok (.bool false) w := by
  have h := eql_vv 5 false 0 q 0 5 false 0 q 0 w
  have hv := veq_str q
  unfold vStr at hv
  rw [hv, run_eql_struct] at h
  rw [run_neq_struct]
  revert h
  cases (Op.equalIn 10000 36 (.agg #[.int .i64 5, .bool false, .float .f64 0, .string q, .int .i64 0]) (.agg #[.int .i64 5, .bool false, .float .f64 0, .string q, .int .i64 0])).run Tryz.prog w with
  | ok b w' =>
    intro h
    simp only [Result.andThen, Result.ok.injEq, Value.bool.injEq] at h ⊢
    obtain ⟨rfl, rfl⟩ := h
    exact ⟨rfl, rfl⟩
  | _ => intro h; simp [Result.andThen] at h
theorem flN_self : ((List.range 501).all fun n => ford (flN n) (flN n)) = true := by decide +kernel
theorem eql_vn {n : Nat} (h : n ≤ 500) (w : World) : (binOp .eql 36 (.agg #[.int .i64 4, .bool false, .float .f64 (flN n), .string ByteArray.empty, .int .i64 0]) (.agg #[.int .i64 4, .bool false, .float .f64 (flN n), .string ByteArray.empty, .int .i64 0])).run Tryz.prog w = .ok (.bool true) w := by
  have hf : ford (flN n) (flN n) = true := List.all_eq_true.1 flN_self n (List.mem_range.2 (by omega))
  rw [eql_vv]
  simp [veq, hf]
theorem eql_ss (s : ByteArray) (w : World) : (binOp .eql 9 (.string s) (.string s)).run Tryz.prog w = .ok (.bool true) w := by
  have u9 := Tryz.underlying9
  go_simp
/-- a row of code units -/
def URow (W : World) (g : Nat) (A : Option Addr) (U : List Int) : Prop := (A = none ∧ U = []) ∨ (A = some ⟨g, 0, none⟩ ∧ ∃ cur, Blk W g cur 121 ∧ UAt W g 0 U)
theorem URow.next {W W' : World} {g : Nat} {A : Option Addr} {U : List Int} (h : URow W g A U) (hb : Below W.heap.size W W') : URow W' g A U := by
  rcases h with h1 | ⟨h1, cur, h2, h3⟩
  · exact .inl h1
  · exact .inr ⟨h1, cur, h2.next hb, h3.below hb h2.lt⟩
theorem URow.keeps {n0 : Nat} {W W' : World} {g : Nat} {A : Option Addr} {U : List Int} (h : URow W g A U) (k : Keeps n0 W W') : URow W' g A U := by
  rcases h with h1 | ⟨h1, cur, h2, h3⟩
  · exact .inl h1
  · refine .inr ⟨h1, cur, h2.keeps k rfl, fun j hj => ?_⟩
    rw [(h2.keeps k rfl).cell, ← h2.cell]; exact h3 j hj
theorem urow_of {W : World} {base n : Nat} {v : Value} {U : List Int} (hown : W.ownsRow base 121 1 v n (U.map (Value.int .u16))) (hn : n = U.length) : ∃ g A cap, v = .slice A U.length cap ∧ U.length ≤ cap ∧ URow W g A U := by
  subst hn
  obtain ⟨h1, h2⟩ := hown
  rcases h2 with ⟨rfl, h2⟩ | ⟨g, cap, cur, rfl, hg, hh, hn, hc, hs, ht⟩
  · have hU := List.eq_nil_of_length_eq_zero h2
    subst hU
    exact ⟨0, none, 0, rfl, Nat.le_refl _, .inl ⟨rfl, rfl⟩⟩
  · exact ⟨g, some ⟨g, 0, none⟩, cap, rfl, hn, .inr ⟨rfl, cur, hh, uRow_at (base := base) ⟨h1, .inr ⟨g, cap, cur, rfl, hg, hh, hn, hc, hs, ht⟩⟩ rfl⟩⟩
theorem URow.one {W : World} {g : Nat} {A : Option Addr} {U : List Int} (h : URow W g A U) {i : Nat} (hi : i < U.length) : A = some ⟨g, 0, none⟩ ∧ UAt W g i [U[i]] ∧ g < W.heap.size := by
  rcases h with ⟨_, rfl⟩ | ⟨h1, cur, h2, h3⟩
  · simp at hi
  · refine ⟨h1, fun j hj => ?_, h2.lt⟩
    obtain rfl : j = 0 := by simpa using hj
    have := h3 i hi
    rw [Nat.zero_add] at this
    rw [Nat.add_zero]
    simpa using this
theorem one_isU {U : List Int} (h : ∀ x ∈ U, IsU x) {i : Nat} (hi : i < U.length) : ∀ x ∈ [U[i]], IsU x := fun x hx => by
  obtain rfl := List.mem_singleton.1 hx
  exact h _ (List.getElem_mem hi)
theorem keysS_at {n : Nat} {L : List (Ky × Ds)} {i : Nat} (hi : i < n) : (keysS n L)[i]? = some (idxK i) := by
  unfold keysS
  rw [List.getElem?_append_left (by simpa using hi), List.getElem?_map, List.getElem?_range hi]
  rfl
theorem keysS_len {n : Nat} {L : List (Ky × Ds)} (h : L ≠ []) : n + 1 ≤ (keysS n L).length := by
  have := sortK_ne h
  unfold keysS
  rw [List.length_append, List.length_map, List.length_range]
  omega
theorem keysS_len2 {n : Nat} {L : List (Ky × Ds)} : (keysS n L).length = n + L.length := by
  unfold keysS sortK
  rw [List.length_append, List.length_map, List.length_range, (Srt.stable_perm _).length_eq, List.length_map]
/-- the string, one code unit longer -/
theorem ofU_snoc {U : List Int} (h : ∀ x ∈ U, IsU x) {i : Nat} (hi : i < U.length) (W : World) (hT : Tabs W) (hn : U.length ≤ 500) :
    Calls Tryz.prog 26 #[.string (ofU (U.take i)), .string (ofU [U[i]])] W fun e w' => e = .returned (.tuple #[.string (ofU (U.take (i + 1))), .int .i64 0]) ∧ Below W.heap.size W w' := by
  have h1 : ∀ x ∈ U.take i, IsU x := fun x hx => h x (List.mem_of_mem_take hx)
  have h2 := one_isU h hi
  obtain ⟨v1, u1⟩ := ofU_ok h1
  obtain ⟨v2, u2⟩ := ofU_ok h2
  have s1 := ofU_size (U.take i)
  have s2 := ofU_size [U[i]]
  have hl : (U.take i).length ≤ 500 := by rw [List.length_take]; omega
  have e : U.take i ++ [U[i]] = U.take (i + 1) := by rw [List.take_add_one, List.getElem?_eq_getElem hi]; rfl
  have s3 := ofU_size (U.take (i + 1))
  have hl3 : (U.take (i + 1)).length ≤ 500 := by rw [List.length_take]; omega
  have := concat_any (ofU (U.take i)) (ofU [U[i]]) W hT (by omega) v1 (by simp at s2; omega) v2 (by rw [u2]; simp) (by rw [u1, u2]; simp; omega) (by rw [u1, u2, e]; omega)
  rw [u1, u2, e] at this
  exact this
theorem unit_dArr (q : ByteArray) : dArr (unitQ q) = #[.int .i64 5, .bool false, .float .f64 0, .string q, .int .i64 0, .int .i64 0, .bool false, .float .f64 0, .string ByteArray.empty, .int .i64 0, .int .i64 0, .bool false, .float .f64 0, .string ByteArray.empty, .int .i64 0, .int .i64 1, .int .i64 2, .int .i64 1] := rfl
theorem kLen_arr : kArr kLen = #[.string ⟨#[108, 101, 110, 103, 116, 104]⟩, .int .i64 0] := rfl
theorem wrap_u32 {i : Nat} (h : i ≤ 500) : IntKind.u32.wrap (i : Int) = (i : Int) := by unfold IntKind.wrap; simp [IntKind.signed, IntKind.bits]; omega

end Go.Proofs.YtoalboilghgalaaGreatDoor

/- StrobjTells, the law: many properties, long strings, strings that are none. -/
namespace Go.Proofs.YtoalboilghgalaaGreatDoor
open Go.RowKit
open Go.Proofs.Dc (V Ds Ky)
attribute [local go_sem] run_store_float

attribute [local go_sem] Oper.semAt_some
theorem slaw_big (w : World) (A : Option Addr) (ps : List (Ky × Ds)) (ca : Nat) (s : ByteArray) (pv : Bool) (hT : Tabs w) (htn : Tryz.lays197_ren.g 3 < w.heap.size ∧ Tryz.lays197_ren.g 4 < w.heap.size) (hP : ∀ W, Below w.heap.size w W → PowT W) (hs : s.size ≤ 1048576) (hbig : 40 < ps.length) : Calls Tryz.prog 3 #[.string s, .slice A ps.length ca, .bool pv] w fun e w' => e = .returned (.bool true) ∧ Below w.heap.size w w' := by
  have e1 : (40 : Int) < (ps.length : Int) := by omega
  have HW := Lib.hid (works_any w hT htn hP)
  clear hT htn hP hbig
  go_enter Tryz.func3, Tryz.ntmps3
  go_wp2_with (go_at_call 6; refine HW.out.mono ?_; rintro e w1 ⟨rfl, hL1⟩)
  go_ret
  exact ⟨rfl, hL1⟩
theorem slaw_long (w : World) (A : Option Addr) (ps : List (Ky × Ds)) (ca : Nat) (s : ByteArray) (pv : Bool) (hT : Tabs w) (htn : Tryz.lays197_ren.g 3 < w.heap.size ∧ Tryz.lays197_ren.g 4 < w.heap.size) (hP : ∀ W, Below w.heap.size w W → PowT W) (hs : s.size ≤ 1048576) (hp : ps.length ≤ 40) (hbig : 500 < s.size) : Calls Tryz.prog 3 #[.string s, .slice A ps.length ca, .bool pv] w fun e w' => e = .returned (.bool true) ∧ Below w.heap.size w w' := by
  have e1 : decide ((40 : Int) < (ps.length : Int)) = false := by simp; omega
  have e2 : (500 : Int) < (s.size : Int) := by omega
  have HW := Lib.hid (works_any w hT htn hP)
  have HM : Hid (∀ W, Below w.heap.size w W → Calls Tryz.prog 7 #[.string s] W fun e w' => e = .returned (.bool true) ∧ Below W.heap.size W w') := Lib.hid fun W h => made_any s W (hT.below h) ⟨Nat.lt_of_lt_of_le htn.1 h.size, Nat.lt_of_lt_of_le htn.2 h.size⟩ hs
  clear hT htn hP hbig hp hs
  go_enter Tryz.func3, Tryz.ntmps3
  go_wp2_with (first | (go_at_call 6; refine HW.out.mono ?_; rintro e w1 ⟨rfl, hL1⟩) | (go_at_call 7; refine (HM.out _ hL1).mono ?_; rintro e w2 ⟨rfl, hb2⟩))
  go_ret
  exact ⟨rfl, more hL1 hb2⟩
theorem slaw_bad (w : World) (A : Option Addr) (ps : List (Ky × Ds)) (ca : Nat) (s : ByteArray) (pv : Bool) (hT : Tabs w) (htn : Tryz.lays197_ren.g 3 < w.heap.size ∧ Tryz.lays197_ren.g 4 < w.heap.size) (hP : ∀ W, Below w.heap.size w W → PowT W) (hs : s.size ≤ 1048576) (hp : ps.length ≤ 40) (hsm : s.size ≤ 500) (hv : uvalid s = false) : Calls Tryz.prog 3 #[.string s, .slice A ps.length ca, .bool pv] w fun e w' => e = .returned (.bool true) ∧ Below w.heap.size w w' := by
  have e1 : decide ((40 : Int) < (ps.length : Int)) = false := by simp; omega
  have e2 : decide ((500 : Int) < (s.size : Int)) = false := by simp; omega
  have HW := Lib.hid (works_any w hT htn hP)
  have HN : Hid (∀ W hb, Below w.heap.size w W → Blk W hb (hArr 1 100000 5 0 (.slice none 0 0)) 102 → Calls Tryz.prog 10 #[.pointer (some ⟨hb, 0, none⟩), .agg (vArr vN), .string s] W fun e w' => e = .returned (.tuple #[.int .i64 0, errV 5]) ∧ Below W.heap.size W w') := Lib.hid fun W hb h hH => snew_bad hb 1 100000 s W (hT.below h) hs hv hH
  have HV : Hid (∀ W, Below w.heap.size w W → Calls Tryz.prog 12 #[.string s] W fun e w' => e = .returned (.bool false) ∧ Below W.heap.size W w') := Lib.hid fun W h => by
    have := valid_any s W (hT.below h) (by omega)
    rw [hv] at this
    exact this
  clear hT htn hP hp hs hsm hv
  go_enter Tryz.func3, Tryz.ntmps3
  go_wp2_with (first | (go_at_call 6; refine HW.out.mono ?_; rintro e w1 ⟨rfl, hL1⟩) | (go_at_call 9; refine (num9 _ _).mono ?_; rintro e w' ⟨rfl, rfl⟩) | (go_at_call 8; refine (new5 1 100000 _ (by decide) (by decide) (by decide)).mono ?_; rintro e w2 ⟨rfl, hH, hb2⟩; have hL2 := more hL1 hb2) | (go_at_call 11; refine (null11 _).mono ?_; rintro e w3 ⟨rfl, hb3⟩; have hL3 := more hL2 hb3; have hH3 := hH.next hb3) | (go_at_call 10; refine (HN.out _ _ hL3 hH3).mono ?_; rintro e w4 ⟨rfl, hb4⟩; have hL4 := more hL3 hb4) | (go_at_call 12; refine (HV.out _ hL4).mono ?_; rintro e w5 ⟨rfl, hb5⟩))
  go_ret
  exact ⟨rfl, more hL4 hb5⟩


end Go.Proofs.YtoalboilghgalaaGreatDoor

/- StrobjTells, the law: a good string. -/
namespace Go.Proofs.YtoalboilghgalaaGreatDoor
open Go.RowKit
open Go.Proofs.Dc (V Ds Ky)
attribute [local go_sem] run_store_float

attribute [local go_sem] Oper.semAt_some
theorem ArgAt.fix {n0 : Nat} {w : World} {B : Option Addr} {ps : List (Ky × Ds)} (h : ArgAt n0 w B ps) {i : Nat} (hi : i < ps.length) : ∃ b off, B = some ⟨b, off, none⟩ ∧ ∀ W, Below n0 w W → W.rangeAt b (off + i * 20) (pCells (ps[i]'hi)) := by
  obtain ⟨b, off, h1, h2, h3, h4⟩ := h i hi
  refine ⟨b, off, h1, fun W hb j v hv => (World.cell?_of_block (w := w) (a := ⟨b, _, none⟩) (hb.block b h2)).trans (h4 j v hv)⟩
theorem arg_val {W : World} {b o : Nat} {x : Ky × Ds} (h : W.rangeAt b o (pCells x)) : W.rangeAt b (o + 2) [.int .i64 x.2.val.kind, .bool x.2.val.bool, .float .f64 x.2.val.num, .string x.2.val.str, .int .i64 x.2.val.id] := range_sub h 2 fun j hj => by
  match j, hj with
  | 0, _ => rfl
  | 1, _ => rfl
  | 2, _ => rfl
  | 3, _ => rfl
  | 4, _ => rfl
theorem slaw_ok (w : World) (A : Option Addr) (ps : List (Ky × Ds)) (ca : Nat) (s : ByteArray) (pv : Bool) (hT : Tabs w) (htn : Tryz.lays197_ren.g 3 < w.heap.size ∧ Tryz.lays197_ren.g 4 < w.heap.size) (hP : ∀ W, Below w.heap.size w W → PowT W) (hs : s.size ≤ 1048576) (hA : ArgAt w.heap.size w A ps) (hnums : ∀ p ∈ ps, Nums p.2) (hp : ps.length ≤ 40) (hsm : s.size ≤ 500) (hv : uvalid s = true) : Calls Tryz.prog 3 #[.string s, .slice A ps.length ca, .bool pv] w fun e w' => e = .returned (.bool true) ∧ Below w.heap.size w w' := by
  have e1 : decide ((40 : Int) < (ps.length : Int)) = false := by simp; omega
  have e2 : decide ((500 : Int) < (s.size : Int)) = false := by simp; omega
  have HW := Lib.hid (works_any w hT htn hP)
  have hul := unitsL_len hv
  obtain ⟨U, hU⟩ : ∃ U, U = unitsL s := ⟨_, rfl⟩
  rw [← hU] at hul
  have HU := Lib.hid (show (∀ x ∈ U, IsU x) ∧ ofU U = s ∧ U.length ≤ 500 from ⟨by rw [hU]; exact unitsL_isU hv, by rw [hU]; exact ofU_units hv, by omega⟩)
  have HN : Hid (∀ W hb, Below w.heap.size w W → w.heap.size ≤ hb → Blk W hb (hArr 1 100000 5 0 (.slice none 0 0)) 102 → Calls Tryz.prog 10 #[.pointer (some ⟨hb, 0, none⟩), .agg (vArr vN), .string s] W fun e w' => ∃ ov ob xb g uc A0 L, e = .returned (.tuple #[.int .i64 1, .nilIface]) ∧ SQ w.heap.size w' hb ov ob xb g uc A0 s U 100001 100000 true L ∧ Below w.heap.size w w') := Lib.hid fun W hb h hhb hH => by
    refine (snew_ok w.heap.size hb 100000 1 100000 s W h.size hhb (hT.below h) htn (by decide) (by decide) hs hv (by rw [← hU]; omega) hH).mono ?_
    rintro e w' ⟨ov, ob, tp, xb, g, uc, A0, rfl, s3, k3, hS3⟩
    rw [← hU] at s3 hS3
    have hf := flN_at (n := U.length) (by omega)
    exact ⟨ov, ob, xb, g, uc, A0, _, rfl, ⟨⟨tp, s3⟩, hS3, SInv.start hf.2 hf.1, by decide, by decide⟩, h.trans k3.below⟩
  have H19 : Hid (∀ W, Below w.heap.size w W → Calls Tryz.prog 19 #[.string s] W fun e w' => ∃ gu Au cu, e = .returned (.tuple #[.slice Au U.length cu, .int .i64 0]) ∧ U.length ≤ cu ∧ URow w' gu Au U ∧ Below W.heap.size W w') := Lib.hid fun W h => by
    refine (units_g s W (hT.below h) (by omega) hv).mono ?_
    rintro e w' ⟨v, rfl, hG, hown⟩
    rw [← hU] at hown
    obtain ⟨gu, Au, cu, rfl, hc, hr⟩ := urow_of hown rfl
    exact ⟨gu, Au, cu, rfl, hc, hr, hG.below⟩
  have HT : Hid (∀ W, Below w.heap.size w W → Tabs W) := Lib.hid fun W h => hT.below h
  have HP := Lib.hid hP
  have HA := Lib.hid hA
  have HNU := Lib.hid hnums
  obtain ⟨m, hm⟩ : ∃ m, ps.length = m := ⟨_, rfl⟩
  rw [hm] at hp e1 ⊢
  have HMM := Lib.hid hm
  clear hA hnums hT htn hP hs hv hU hul hm
  go_enter Tryz.func3, Tryz.ntmps3
  go_upto_region 15 with (first | (go_at_call 6; refine HW.out.mono ?_; rintro e w1 ⟨rfl, hL1⟩) | (go_at_call 9; refine (num9 _ _).mono ?_; rintro e w' ⟨rfl, rfl⟩) | (go_at_call 8; refine (new5 1 100000 _ (by decide) (by decide) (by decide)).mono ?_; rintro e w2 ⟨rfl, hH, hb2⟩; have hL2 := more hL1 hb2) | (go_at_call 11; refine (null11 _).mono ?_; rintro e w3 ⟨rfl, hb3⟩; have hL3 := more hL2 hb3; have hH3 := hH.next hb3) | (go_at_call 10; refine (HN.out _ _ hL3 hL1.size hH3).mono ?_; rintro e w4 ⟨ov, ob, xb, g, uc, A0, L, rfl, hQ, hL4⟩))
  obtain ⟨hb, hhb⟩ : ∃ x, w1.heap.size = x := ⟨_, rfl⟩
  rw [hhb] at hQ ⊢
  clear hhb hH hH3 hL1 hL2 hL3 hb2 hb3
  have HQ0 := Lib.hid (And.intro hQ hL4)
  clear hQ
  go_wp2_with fail
  go_loopg [11] m (fun fu s11 wr => ∃ (i : Nat) (ext : Bool) (L : List (Ky × Ds)) (F : Int), s11 = .int .i64 i ∧ i + fu = m ∧ SQ w.heap.size wr hb ov ob xb g uc A0 s U 100001 F ext L ∧ Below w.heap.size w wr ∧ 100000 - 16 * (i : Int) ≤ F)
  case atStart => exact ⟨0, true, L, 100000, rfl, by omega, HQ0.out.1, HQ0.out.2, by omega⟩
  case round =>
    clear HQ0 hL4
    obtain ⟨i, ext, L, F, rfl, hi, hI, hbW, hF⟩ := hrel
    by_cases hlt : i < m
    · as_aux_lemma =>
      obtain ⟨b, off, rfl, HRF⟩ := HA.out.fix (i := i) (by rw [HMM.out]; exact hlt)
      obtain ⟨p, hp9⟩ : ∃ p, ps[i]'(by rw [HMM.out]; exact hlt) = p := ⟨_, rfl⟩
      have HND : Hid (Nums p.2) := Lib.hid (by rw [← hp9]; exact HNU.out _ (List.getElem_mem _))
      rw [hp9] at HRF
      clear hp9
      obtain ⟨k, d⟩ := p
      simp only at HND
      replace HRF := Lib.hid HRF
      obtain ⟨fu, rfl⟩ : ∃ fu, gk = fu + 1 := ⟨gk - 1, by omega⟩
      obtain ⟨i2, hi2⟩ : ∃ i2, i + 1 = i2 := ⟨_, rfl⟩
      have e3 : (i : Int) + 1 = (i2 : Int) := by omega
      have e4 := wrap_nat i2 (by omega)
      have e5 : (0 : Int) ≤ (i : Int) := by omega
      have e6 : (i : Int) < (m : Int) := by omega
      have HF := Lib.hid (show i2 + fu = m ∧ i + 1 = i2 ∧ 100000 - 16 * (i : Int) ≤ F ∧ i < 40 from ⟨by omega, hi2, hF, by omega⟩)
      clear hi hi2 hF hlt
      cases hgk : kgood k with
      | false =>
        have HC13 : Hid (∀ W, Tabs W → Calls Tryz.prog 13 #[.agg (kArr k)] W fun e w' => e = .returned (.int .i64 5) ∧ Below W.heap.size W w') := Lib.hid fun W h => by
          have := keycheck_any k W h
          rw [hgk, if_neg (by simp)] at this
          exact this
        clear hgk
        go_wp2_with (first | ((with_reducible show wpList _ _ _ (⟨_, .load 40 (.tmp 78), _, _, _, _⟩ :: _) _ _); refine wpList_load_mid rfl 40 _ rfl b (off + i * 20) rfl [.string k.str, .int .i64 k.sym] _ (arg_key (HRF.out _ hbW)) Tryz.underlying40 rfl Tryz.size40 ?_) | (go_at_call 13; refine (HC13.out _ hI.tabs).mono ?_; rintro e wE ⟨rfl, hbE⟩; have hIE := hI.next hbE; have hbWE := more hbW hbE) | (go_at_call 9; refine (num9 _ _).mono ?_; rintro e w' ⟨rfl, rfl⟩))
        go_roundg fu
        case measure => omega
        case rel =>
          obtain ⟨h1, h2, h3, h4⟩ := HF.out
          exact ⟨i2, ext, L, F, by go_num, h1, hIE, hbWE, by omega⟩
      | true =>
        have HGK := Lib.hid hgk
        have HC13 : Hid (∀ W, Tabs W → Calls Tryz.prog 13 #[.agg (kArr k)] W fun e w' => e = .returned (.int .i64 0) ∧ Below W.heap.size W w') := Lib.hid fun W h => by
          have := keycheck_any k W h
          rw [hgk, if_pos rfl] at this
          exact this
        clear hgk
        go_upto_region 19 with (first | ((with_reducible show wpList _ _ _ (⟨_, .load 40 (.tmp 78), _, _, _, _⟩ :: _) _ _); refine wpList_load_mid rfl 40 _ rfl b (off + i * 20) rfl [.string k.str, .int .i64 k.sym] _ (arg_key (HRF.out _ hbW)) Tryz.underlying40 rfl Tryz.size40 ?_) | (go_at_call 13; refine (HC13.out _ hI.tabs).mono ?_; rintro e wE ⟨rfl, hbE⟩; have hIE := hI.next hbE; have hbWE := more hbW hbE) | (go_at_call 9; refine (num9 _ _).mono ?_; rintro e w' ⟨rfl, rfl⟩))
        refine Ord.region (fun W => W.rangeAt b (off + i * 20) [.string k.str, .int .i64 k.sym] ∧ W.rangeAt b (off + i * 20 + 2) [.int .i64 d.val.kind, .bool d.val.bool, .float .f64 d.val.num, .string d.val.str, .int .i64 d.val.id, .int .i64 d.get.kind, .bool d.get.bool, .float .f64 d.get.num, .string d.get.str, .int .i64 d.get.id, .int .i64 d.set.kind, .bool d.set.bool, .float .f64 d.set.num, .string d.set.str, .int .i64 d.set.id, .int .i64 d.w, .int .i64 d.e, .int .i64 d.c]) [] (by kernel_rfl) ⟨arg_key (HRF.out _ hbWE), arg_desc (HRF.out _ hbWE)⟩ ?_
        intro hS
        refine Ord.tp 0 83 rfl rfl ?_
        refine Ord.tp 1 84 rfl rfl ?_
        refine Ord.tp 2 85 rfl rfl ?_
        refine Ord.tp 3 86 rfl rfl ?_
        refine Ord.tp 4 87 rfl rfl ?_
        refine Ord.tk 5 88 rfl rfl (yieldsIf_load_mid (by rfl) 40 _ rfl b (off + i * 20) rfl ([.string k.str, .int .i64 k.sym]) _ (fun W hSW => hSW.1) Tryz.underlying40 rfl Tryz.size40) ?_
        refine Ord.tp 6 89 rfl rfl ?_
        refine Ord.tp 7 90 rfl rfl ?_
        refine Ord.tp 8 91 rfl rfl ?_
        refine Ord.tp 9 92 rfl rfl ?_
        refine Ord.tk 10 93 rfl rfl (yieldsIf_load_mid (by rfl) 43 _ rfl b (off + i * 20 + 2) rfl ([.int .i64 d.val.kind, .bool d.val.bool, .float .f64 d.val.num, .string d.val.str, .int .i64 d.val.id, .int .i64 d.get.kind, .bool d.get.bool, .float .f64 d.get.num, .string d.get.str, .int .i64 d.get.id, .int .i64 d.set.kind, .bool d.set.bool, .float .f64 d.set.num, .string d.set.str, .int .i64 d.set.id, .int .i64 d.w, .int .i64 d.e, .int .i64 d.c]) _ (fun W hSW => hSW.2) Tryz.underlying43 rfl Tryz.size43) ?_
        refine Ord.step (i := 11) rfl (by kernel_rfl) (by rfl) ?_
        intro K HK
        have hId := hIE.next (Below.refl _ _).drew
        have hbd := more hbWE (Below.refl _ _).drew
        go_simp
        go_at_call 14
        refine (q_def hId (by have := HF.out; omega) k d HND.out).mono ?_
        rintro e wX ⟨v1, ext1, L1, F1, rfl, hI1, hF1, k1⟩
        have hbX := hbd.trans k1.below
        refine HK.out _ _ ?_
        clear HK
        refine ⟨Ord.np (by kernel_rfl), ?_⟩
        try simp only [List.setIfInBounds_toArray, List.set_cons_zero, List.set_cons_succ]
        refine Ord.done (by kernel_rfl) ?_ _
        clear hS hIE hbWE hI hbW hId hbd k1
        go_upto_region 20 with fail
        refine Ord.region (fun W => W.rangeAt b (off + i * 20) [.string k.str, .int .i64 k.sym] ∧ W.rangeAt b (off + i * 20 + 2) [.int .i64 d.val.kind, .bool d.val.bool, .float .f64 d.val.num, .string d.val.str, .int .i64 d.val.id]) [] (by kernel_rfl) ⟨arg_key (HRF.out _ hbX), arg_val (HRF.out _ hbX)⟩ ?_
        intro hS
        replace hI1 := hI1.next (Below.refl _ _).drew
        replace hbX := more hbX (Below.refl _ _).drew
        refine Ord.tp 0 95 rfl rfl ?_
        refine Ord.tp 1 96 rfl rfl ?_
        refine Ord.tp 2 97 rfl rfl ?_
        refine Ord.tp 3 98 rfl rfl ?_
        refine Ord.tp 4 99 rfl rfl ?_
        refine Ord.tk 5 100 rfl rfl (yieldsIf_load_mid (by rfl) 40 _ rfl b (off + i * 20) rfl ([.string k.str, .int .i64 k.sym]) _ (fun W hSW => hSW.1) Tryz.underlying40 rfl Tryz.size40) ?_
        refine Ord.tp 6 101 rfl rfl ?_
        refine Ord.tp 7 102 rfl rfl ?_
        refine Ord.tp 8 103 rfl rfl ?_
        refine Ord.tp 9 104 rfl rfl ?_
        refine Ord.tp 10 105 rfl rfl ?_
        refine Ord.tk 11 106 rfl rfl (yieldsIf_load_mid (by rfl) 36 _ rfl b (off + i * 20 + 2) rfl ([.int .i64 d.val.kind, .bool d.val.bool, .float .f64 d.val.num, .string d.val.str, .int .i64 d.val.id]) _ (fun W hSW => hSW.2) Tryz.underlying36 rfl Tryz.size36) ?_
        refine Ord.step (i := 12) rfl (by kernel_rfl) (by rfl) ?_
        intro K HK
        go_simp
        go_at_call 16
        refine (ref16 _ hI1.tabs).mono ?_
        rintro e wR ⟨rfl, hbR⟩
        replace hI1 := hI1.next hbR
        replace hbX := more hbX hbR
        refine HK.out _ _ ?_
        clear HK
        refine Ord.kp ?_ ?_
        · exact ⟨arg_key (HRF.out _ hbX), arg_val (HRF.out _ hbX)⟩
        clear hS
        intro hS
        try simp only [List.setIfInBounds_toArray, List.set_cons_zero, List.set_cons_succ]
        refine Ord.step (i := 13) rfl (by kernel_rfl) (by rfl) ?_
        intro K HK
        go_simp
        go_at_call 15
        refine (q_set hI1 (by have := HF.out; omega) k d.val HGK.out HND.out.val).mono ?_
        rintro e wY ⟨v2, ext2, L2, F2, rfl, hI2, hF2, k2⟩
        replace hbX := hbX.trans k2.below
        refine HK.out _ _ ?_
        clear HK
        refine ⟨Ord.np (by kernel_rfl), ?_⟩
        try simp only [List.setIfInBounds_toArray, List.set_cons_zero, List.set_cons_succ]
        refine Ord.done (by kernel_rfl) ?_ _
        clear hS hI1 k2
        go_upto_region 21 with fail
        go_cut [111] (fun sx wx => ∃ B0 : Bool, sx = .bool B0 ∧ wY = wx)
        case first => as_aux_lemma =>
          by_cases hpar : i % 2 = 1
          · have a6 : Int.tmod (i : Int) 2 = 1 := by rw [Int.tmod_eq_emod_of_nonneg e5]; omega
            have v1 : IntKind.i64.wrap 1 = 1 := by decide
            clear hpar
            go_wp2_with fail
            go_meet
            exact ⟨true, rfl, rfl⟩
          · have a6 : Int.tmod (i : Int) 2 = 0 := by rw [Int.tmod_eq_emod_of_nonneg e5]; omega
            have v0 : IntKind.i64.wrap 0 = 0 := by decide
            clear hpar
            go_wp2_with fail
            go_meet
            exact ⟨false, rfl, rfl⟩
        case rest => as_aux_lemma =>
        obtain ⟨B0, rfl, rfl⟩ := hcut
        go_upto_if 111 with fail
        go_cut [] (fun wx => ∃ ext L F, SQ w.heap.size wx hb ov ob xb g uc A0 s U 100001 F ext L ∧ Below w.heap.size w wx ∧ 100000 - 16 * (i : Int) - 12 ≤ F)
        case first => as_aux_lemma =>
          cases B0 with
          | true =>
            go_wp2_with (first | ((with_reducible show wpList _ _ _ (⟨_, .load 40 (.tmp 116), _, _, _, _⟩ :: _) _ _); refine wpList_load_mid rfl 40 _ rfl b (off + i * 20) rfl [.string k.str, .int .i64 k.sym] _ (arg_key (HRF.out _ hbX)) Tryz.underlying40 rfl Tryz.size40 ?_) | (go_at_call 17; refine (q_del hI2 (by have := HF.out; omega) k HGK.out).mono ?_; rintro e wZ ⟨v3, ext3, L3, F3, rfl, hI3, hF3, k3⟩))
            go_meet
            exact ⟨ext3, L3, F3, hI3, hbX.trans k3.below, by have := HF.out; omega⟩
          | false =>
            go_wp2_with fail
            go_meet
            exact ⟨ext2, L2, F2, hI2, hbX, by have := HF.out; omega⟩
        case rest => as_aux_lemma =>
        clear hI2 hbX
        obtain ⟨ext3, L3, F3, hI3, hbX, hF3⟩ := hcut
        go_upto_region 23 with fail
        go_cut [126] (fun sx wx => ∃ B1 : Bool, sx = .bool B1 ∧ wc = wx)
        case first => as_aux_lemma =>
          cases pv with
          | false =>
            go_wp2_with fail
            go_meet
            exact ⟨false, rfl, rfl⟩
          | true =>
            have a7 : Int.tdiv (m : Int) 2 = ((m / 2 : Nat) : Int) := by rw [Int.tdiv_eq_ediv_of_nonneg (by omega)]; omega
            obtain ⟨h2, hh2⟩ : ∃ h2, m / 2 = h2 := ⟨_, rfl⟩
            have a8 := wrap_nat h2 (by omega)
            rw [hh2] at a7
            clear hh2
            by_cases hx : i = h2
            · subst hx
              go_wp2_with fail
              go_meet
              exact ⟨true, rfl, rfl⟩
            · have hxb : ((i : Int) == (h2 : Int)) = false := by simp; omega
              have hxd : ¬ (i : Int) = (h2 : Int) := by omega
              go_wp2_with fail
              go_meet
              exact ⟨false, rfl, rfl⟩
        case rest => as_aux_lemma =>
        obtain ⟨B1, rfl, rfl⟩ := hcut
        go_upto_if 126 with fail
        cases B1 with
        | true =>
          go_wp2_with (go_at_call 18; refine (q_prev hI3 (by have := HF.out; omega)).mono ?_; rintro e wZ ⟨v4, ext4, L4, F4, rfl, hI4, hF4, k4⟩)
          go_roundg fu
          case measure => omega
          case rel =>
            obtain ⟨h1, h2, h3, h4⟩ := HF.out
            exact ⟨i2, ext4, L4, F4, by go_num, h1, hI4, hbX.trans k4.below, by omega⟩
        | false =>
          go_wp2_with fail
          go_roundg fu
          case measure => omega
          case rel =>
            obtain ⟨h1, h2, h3, h4⟩ := HF.out
            exact ⟨i2, ext3, L3, F3, by go_num, h1, hI3, hbX, by omega⟩
    · as_aux_lemma =>
      obtain rfl : i = m := by omega
      have hlti : ¬ (i : Int) < (i : Int) := by omega
      have hFF : 99000 ≤ F := by omega
      clear hi hF hlt HA HNU HMM
      obtain ⟨n, hn⟩ : ∃ n, U.length = n := ⟨_, rfl⟩
      rw [hn] at H19
      have HN9 := Lib.hid hn
      have hn5 : n ≤ 500 := by have := HU.out.2.2; omega
      have HK : Hid (∀ W (F : Int), SQ w.heap.size W hb ov ob xb g uc A0 s U 100001 F ext L → 0 < F → Below w.heap.size w W → Calls Tryz.prog 20 #[.pointer (some ⟨hb, 0, none⟩), .int .i64 1] W fun e w' => ∃ kb kn c r, e = .returned (.tuple #[.slice (some ⟨kb, 0, none⟩) kn c, .nilIface]) ∧ n + 1 ≤ kn ∧ Blk w' kb (kRow (keysS n L) r) 40 ∧ SQ w.heap.size w' hb ov ob xb g uc A0 s U 100001 (F - 1) ext L ∧ Keeps w.heap.size W w') := Lib.hid fun W F h hf hB => by
        refine (q_keys h hf (fun W' k' => HP.out _ (hB.trans k'.below))).mono ?_
        rintro e w' ⟨gk, c, r, rfl, h1, h2, h3⟩
        have h4 := keysS_len (n := U.length) h.inv.ne
        rw [HN9.out] at h4 h1 ⊢
        exact ⟨gk, _, c, r, rfl, h4, h1, h2, h3⟩
      have HCL : Hid (∀ W (F : Int), SQ w.heap.size W hb ov ob xb g uc A0 s U 100001 F ext L → 0 < F → Calls Tryz.prog 21 #[.pointer (some ⟨hb, 0, none⟩), .int .i64 1, .agg #[.string ⟨#[108, 101, 110, 103, 116, 104]⟩, .int .i64 0], .agg (vArr vN)] W fun e w' => e = .returned (.tuple #[.agg #[.int .i64 4, .bool false, .float .f64 (flN n), .string ByteArray.empty, .int .i64 0], .nilIface]) ∧ SQ w.heap.size w' hb ov ob xb g uc A0 s U 100001 (F - 1) ext L ∧ Keeps w.heap.size W w') := Lib.hid fun W F h hf => by
        have hfl := flN_at hn5
        have ho := h.inv.length
        rw [HN9.out] at ho
        exact q_val h hf kLen kLen_good (lenD n) ho (len_data _) ⟨hfl.1, show (0 : Nat) < 2 ^ 64 by decide, show (0 : Nat) < 2 ^ 64 by decide⟩
      obtain ⟨n1, hn1⟩ : ∃ n1, n + 1 = n1 := ⟨_, rfl⟩
      have e8 : (n : Int) + 1 = (n1 : Int) := by omega
      have e9 := wrap_nat n1 (by omega)
      go_upto_region 27 with (first | (go_at_call 19; refine (H19.out _ hbW).mono ?_; rintro e w5 ⟨gu, Au, cu, rfl, hcu, hru, hb5⟩; have hI5 := hI.next hb5; have hbW5 := more hbW hb5) | (go_at_call 20; refine (HK.out _ _ hI5 (by omega) hbW5).mono ?_; rintro e w6 ⟨kb, kn, ck, rk, rfl, hkn, hR6, hI6, k6⟩; have hbW6 := hbW5.trans k6.below; have hru6 := hru.keeps k6))
      have e13 : decide ((kn : Int) < (n1 : Int)) = false := by simp; omega
      have e14 : ¬ (kn : Int) < (n1 : Int) := by omega
      have e15 : decide (kn < n1) = false := by simp; omega
      have e16 : ¬ kn < n1 := by omega
      have HQ1 := Lib.hid (show SQ w.heap.size w6 hb ov ob xb g uc A0 s U 100001 (F - 1) ext L ∧ Blk w6 kb (kRow (keysS n L) rk) 40 ∧ URow w6 gu Au U ∧ Below w.heap.size w w6 ∧ 98000 ≤ F - 1 from ⟨hI6, hR6, hru6, hbW6, by omega⟩)
      clear hI hI5 hI6 hR6 hru hru6 hbW hbW5 hbW6 hb5 k6 hFF
      go_wp2_with (go_at_call 9; refine (num9 _ _).mono ?_; rintro e w' ⟨rfl, rfl⟩)
      go_loopg [16, 17] n (fun fu s16 s17 wr => ∃ (j : Nat) (F : Int), s16 = .string (ofU (U.take j)) ∧ s17 = .int .i64 j ∧ j + fu = n ∧ SQ w.heap.size wr hb ov ob xb g uc A0 s U 100001 F ext L ∧ Blk wr kb (kRow (keysS n L) rk) 40 ∧ URow wr gu Au U ∧ Below w.heap.size w wr ∧ 98000 - 2 * (j : Int) ≤ F)
      case atStart => exact ⟨0, F - 1, by rfl, rfl, by omega, HQ1.out.1, HQ1.out.2.1, HQ1.out.2.2.1, HQ1.out.2.2.2.1, by have := HQ1.out.2.2.2.2; omega⟩
      case round =>
        clear HQ1
        obtain ⟨j, F2, rfl, rfl, hj, hJ, hR, hru, hbJ, hF2⟩ := hrel
        by_cases hlt : j < n
        · as_aux_lemma =>
          obtain ⟨fu, rfl⟩ : ∃ fu, gk = fu + 1 := ⟨gk - 1, by omega⟩
          obtain ⟨j2, hj2⟩ : ∃ j2, j + 1 = j2 := ⟨_, rfl⟩
          have e3 : (j : Int) + 1 = (j2 : Int) := by omega
          have e4 := wrap_nat j2 (by omega)
          have e5 : (0 : Int) ≤ (j : Int) := by omega
          have e6 : (j : Int) < (n : Int) := by omega
          have e7 : (j : Int) < (kn : Int) := by omega
          have e10 : (j2 : Int) ≤ (cu : Int) := by omega
          have e11 : (j : Int) ≤ (j2 : Int) := by omega
          have e12 := wrap_u32 (i := j) (by omega)
          have HF4 := Lib.hid (show j2 + fu = n ∧ j + 1 = j2 ∧ 98000 - 2 * (j : Int) ≤ F2 ∧ j < 500 from ⟨by omega, hj2, hF2, by omega⟩)
          have hjU : j < U.length := by rw [HN9.out]; exact hlt
          obtain ⟨hAu, hua, hgl⟩ := hru.one hjU
          subst hAu
          clear hgl hua
          obtain ⟨x, hx⟩ : ∃ x, U[j] = x := ⟨_, rfl⟩
          have hxu : IsU x := by rw [← hx]; exact HU.out.1 _ (List.getElem_mem hjU)
          have ho := hJ.inv.unit hjU (by omega)
          have hsn := fun W (h : Tabs W) => ofU_snoc HU.out.1 hjU W h (by have := HU.out.2.2; omega)
          have HC25 : Hid (∀ W, URow W gu (some ⟨gu, 0, none⟩) U → Calls Tryz.prog 25 #[.slice (some ⟨gu, j, none⟩) 1 (cu - j)] W fun e w' => e = .returned (.string (ofU [x])) ∧ Below W.heap.size W w') := Lib.hid fun W h => by
            obtain ⟨_, h2, h3⟩ := h.one hjU
            rw [hx] at h2
            exact uof_any gu j 1 (cu - j) [x] rfl W h2 (.inr h3) (fun y hy => by rw [List.mem_singleton.1 hy]; exact hxu) (by decide)
          rw [hx] at ho hsn
          unfold unitP at ho
          have hgd := unit_good hxu
          have hud := unit_data hxu
          unfold unitP at hud
          clear hx
          obtain ⟨q, hq⟩ : ∃ q, ofU [x] = q := ⟨_, rfl⟩
          rw [hq] at ho hsn HC25 hgd hud
          clear hq hxu
          have HC24 : Hid (∀ W, Tabs W → Calls Tryz.prog 24 #[.string q] W fun e w' => e = .returned (.agg #[.int .i64 5, .bool false, .float .f64 0, .string q, .int .i64 0]) ∧ Below W.heap.size W w') := Lib.hid fun W h => str24 q hgd W h
          have HC26 : Hid (∀ W, Tabs W → Calls Tryz.prog 26 #[.string (ofU (U.take j)), .string q] W fun e w' => e = .returned (.tuple #[.string (ofU (U.take j2)), .int .i64 0]) ∧ Below W.heap.size W w') := Lib.hid (by rw [← hj2]; exact hsn)
          have hkg : kgood (idxK j) = true := idx_good (by omega)
          have hks := keysS_at (L := L) hlt
          have c22 := fun W (h : ∀ W', Below W.heap.size W W' → PowT W') => fromidx_any j (by omega) W h
          obtain ⟨dj, hdj⟩ : ∃ dj : ByteArray, idxK j = ⟨dj, 0⟩ := ⟨_, rfl⟩
          rw [hdj] at ho hkg hks c22
          have HC22 : Hid (∀ W, Below w.heap.size w W → Calls Tryz.prog 22 #[.int .u32 j] W fun e w' => e = .returned (.agg #[.string dj, .int .i64 0]) ∧ Below W.heap.size W w') := Lib.hid fun W h => c22 W fun W' h' => HP.out _ (more h h')
          have HC21 : Hid (∀ W (F : Int), SQ w.heap.size W hb ov ob xb g uc A0 s U 100001 F ext L → 0 < F → Calls Tryz.prog 21 #[.pointer (some ⟨hb, 0, none⟩), .int .i64 1, .agg #[.string dj, .int .i64 0], .agg (vArr vN)] W fun e w' => e = .returned (.tuple #[.agg (vArr (vStr q)), .nilIface]) ∧ SQ w.heap.size w' hb ov ob xb g uc A0 s U 100001 (F - 1) ext L ∧ Keeps w.heap.size W w') := Lib.hid fun W F h hf => q_val h hf ⟨dj, 0⟩ hkg (unitQ q) ho hud ⟨show (0 : Nat) < 2 ^ 64 by decide, show (0 : Nat) < 2 ^ 64 by decide, show (0 : Nat) < 2 ^ 64 by decide⟩
          have HC23 : Hid (∀ W (F : Int), SQ w.heap.size W hb ov ob xb g uc A0 s U 100001 F ext L → 0 < F → Calls Tryz.prog 23 #[.pointer (some ⟨hb, 0, none⟩), .int .i64 1, .agg #[.string dj, .int .i64 0]] W fun e w' => e = .returned (.tuple #[.agg (dArr (unitQ q)), .bool true, .nilIface]) ∧ SQ w.heap.size w' hb ov ob xb g uc A0 s U 100001 (F - 1) ext L ∧ Keeps w.heap.size W w') := Lib.hid fun W F h hf => q_own h hf ⟨dj, 0⟩ hkg (unitQ q) ho
          have HKR : Hid (∀ W, Blk W kb (kRow (keysS n L) rk) 40 → W.rangeAt kb (j * 2) [.string dj, .int .i64 0]) := Lib.hid fun W h => kRow_range h j ⟨dj, 0⟩ hks
          have HCC : Hid (¬ cu = j) := Lib.hid (by omega)
          have HJJ : Hid (j2 - j = 1) := Lib.hid (by omega)
          have hq1 := neq_kk dj 0
          have hq2 := neq_vs q
          clear ho hsn hgd hud hkg hks c22 hdj hjU hj hj2 hF2 hlt
          go_upto_region 35 with (first | (go_at_call 22; refine (HC22.out _ hbJ).mono ?_; rintro e w7 ⟨rfl, hb7⟩; have hJ7 := hJ.next hb7; have hR7 := hR.next hb7; have hru7 := hru.next hb7; have hbJ7 := more hbJ hb7) | (go_at_call 11; refine (null11 _).mono ?_; rintro e w8 ⟨rfl, hb8⟩; have hJ8 := hJ7.next hb8; have hR8 := hR7.next hb8; have hru8 := hru7.next hb8; have hbJ8 := more hbJ7 hb8) | (go_at_call 21; refine (HC21.out _ _ hJ8 (by have := HF4.out; omega)).mono ?_; rintro e w9 ⟨rfl, hJ9, k9⟩; have hR9 := hR8.keeps k9 rfl; have hru9 := hru8.keeps k9; have hbJ9 := hbJ8.trans k9.below) | ((with_reducible show wpList _ _ _ (⟨some 18, .alloc 36, _, _, _, _⟩ :: _) _ _); refine wpList_alloc_blk rfl 36 rfl _ zero36 ?_; intro wA hA18 hLA18 hsA; clear hsA) | ((with_reducible show wpList _ _ _ (⟨_, .store 36 (.tmp 18) _, _, _, _, _⟩ :: _) _ _); refine wpList_store_blk rfl 36 _ _ rfl _ (vArr (vStr q)) _ 36 rfl rfl hA18 Tryz.size36 rfl (vArr_one _) ?_; intro w10 hB10 hO10; have hbT : Below w9.heap.size w9 w10 := hLA18.trans (hO10.below _ hLA18.size (by simp)); have hJ10 := hJ9.next hbT; have hR10 := hR9.next hbT; have hru10 := hru9.next hbT; have hbJ10 := more hbJ9 hbT; clear hbT hO10 hLA18 hA18) | ((with_reducible show wpList _ _ _ (⟨_, .load 40 (.tmp 173), _, _, _, _⟩ :: _) _ _); refine wpList_load_mid rfl 40 _ rfl kb (j * 2) rfl [.string dj, .int .i64 0] _ (HKR.out _ hR10) Tryz.underlying40 rfl Tryz.size40 ?_) | (go_at_call 23; refine (HC23.out _ _ hJ10 (by have := HF4.out; omega)).mono ?_; rintro e w11 ⟨rfl, hJ11, k11⟩; have hR11 := hR10.keeps k11 rfl; have hru11 := hru10.keeps k11; have hbJ11 := hbJ10.trans k11.below; have hB11 := hB10.keeps k11 rfl) | ((with_reducible show wpList _ _ _ (⟨some 20, .alloc 43, _, _, _, _⟩ :: _) _ _); refine wpList_alloc_blk rfl 43 rfl (dArr Dc.d0) zero43 ?_; intro wB hA20 hLA20 hsB; clear hsB) | ((with_reducible show wpList _ _ _ (⟨_, .store 43 (.tmp 20) _, _, _, _, _⟩ :: _) _ _); refine wpList_store_blk rfl 43 _ _ rfl _ (dArr (unitQ q)) _ 43 rfl rfl hA20 Tryz.size43 (Eq.refl 18) (dCells_one _) ?_; intro w12 hD12 hO12; have hbT : Below w11.heap.size w11 w12 := hLA20.trans (hO12.below _ hLA20.size (by simp)); have hJ12 := hJ11.next hbT; have hR12 := hR11.next hbT; have hru12 := hru11.next hbT; have hbJ12 := more hbJ11 hbT; have hB12 := hB11.next hbT; clear hbT hO12 hLA20 hA20))
          clear hJ hJ7 hJ8 hJ9 hJ10 hJ11 hR hR7 hR8 hR9 hR10 hR11 hru hru7 hru8 hru9 hru10 hru11 hbJ hbJ7 hbJ8 hbJ9 hbJ10 hbJ11 hB10 hB11 hb7 hb8 k9 k11
          refine Ord.region (fun W => W.rangeAt kb (j * 2) [.string dj, .int .i64 0] ∧ Blk W w9.heap.size (vArr (vStr q)) 36 ∧ W.cell? ⟨w11.heap.size, 15, none⟩ = some (.int .i64 1) ∧ W.cell? ⟨w11.heap.size, 16, none⟩ = some (.int .i64 2) ∧ W.cell? ⟨w11.heap.size, 17, none⟩ = some (.int .i64 1)) [45] (by kernel_rfl) ⟨HKR.out _ (hR12.next (Below.refl _ _).drew), hB12.next (Below.refl _ _).drew, (hD12.next (Below.refl _ _).drew).cell 15, (hD12.next (Below.refl _ _).drew).cell 16, (hD12.next (Below.refl _ _).drew).cell 17⟩ ?_
          intro hS
          replace hJ12 := hJ12.next (Below.refl _ _).drew
          replace hR12 := hR12.next (Below.refl _ _).drew
          replace hru12 := hru12.next (Below.refl _ _).drew
          replace hB12 := hB12.next (Below.refl _ _).drew
          replace hD12 := hD12.next (Below.refl _ _).drew
          replace hbJ12 := more hbJ12 (Below.refl _ _).drew
          refine Ord.tp 0 179 rfl rfl ?_
          refine Ord.tp 1 180 rfl rfl ?_
          refine Ord.tp 2 181 rfl rfl ?_
          refine Ord.tp 3 182 rfl rfl ?_
          refine Ord.tp 4 183 rfl rfl ?_
          refine Ord.tp 5 184 rfl rfl ?_
          refine Ord.tp 6 185 rfl rfl ?_
          refine Ord.tp 7 186 rfl rfl ?_
          refine Ord.tp 8 187 rfl rfl ?_
          refine Ord.tp 9 188 rfl rfl ?_
          refine Ord.tp 10 189 rfl rfl ?_
          refine Ord.tp 11 190 rfl rfl ?_
          refine Ord.tp 12 191 rfl rfl ?_
          refine Ord.tp 13 192 rfl rfl ?_
          refine Ord.tk 14 193 rfl rfl (yieldsIf_load_mid (by rfl) 40 _ rfl kb (j * 2) rfl ([.string dj, .int .i64 0]) _ (fun W hSW => hSW.1) Tryz.underlying40 rfl Tryz.size40) ?_
          refine Ord.tp 15 194 rfl rfl ?_
          refine Ord.tp 16 195 rfl rfl ?_
          refine Ord.step (i := 17) rfl (by kernel_rfl) (by rfl) ?_
          intro K HK
          go_simp
          go_at_call 22
          refine (HC22.out _ hbJ12).mono ?_
          rintro e wF ⟨rfl, hbF⟩
          replace hJ12 := hJ12.next hbF
          replace hR12 := hR12.next hbF
          replace hru12 := hru12.next hbF
          replace hB12 := hB12.next hbF
          replace hD12 := hD12.next hbF
          replace hbJ12 := more hbJ12 hbF
          refine HK.out _ _ ?_
          clear HK
          refine Ord.kp ?_ ?_
          · exact ⟨HKR.out _ hR12, hB12, hD12.cell 15, hD12.cell 16, hD12.cell 17⟩
          clear hS
          intro hS
          try simp only [List.setIfInBounds_toArray, List.set_cons_zero, List.set_cons_succ]
          refine Ord.tp 18 197 rfl rfl ?_
          refine Ord.tp 19 198 rfl rfl ?_
          refine Ord.tp 20 199 rfl rfl ?_
          refine Ord.tk 21 200 rfl rfl (yieldsIf_load_mid (by rfl) 36 _ rfl w9.heap.size 0 rfl ([.int .i64 5, .bool false, .float .f64 0, .string q, .int .i64 0]) _ (fun W hSW => range_all hSW.2.1) Tryz.underlying36 rfl Tryz.size36) ?_
          refine Ord.tp 22 201 rfl rfl ?_
          refine Ord.tp 23 202 rfl rfl ?_
          refine Ord.tp 24 203 rfl rfl ?_
          refine Ord.tp 25 204 rfl rfl ?_
          refine Ord.tp 26 205 rfl rfl ?_
          refine Ord.step (i := 27) rfl (by kernel_rfl) (by rfl) ?_
          intro K HK
          go_simp
          go_at_call 25
          rw [if_neg HCC.out, HJJ.out]
          refine (HC25.out _ hru12).mono ?_
          rintro e wG ⟨rfl, hbG⟩
          replace hJ12 := hJ12.next hbG
          replace hR12 := hR12.next hbG
          replace hru12 := hru12.next hbG
          replace hB12 := hB12.next hbG
          replace hD12 := hD12.next hbG
          replace hbJ12 := more hbJ12 hbG
          refine HK.out _ _ ?_
          clear HK
          refine Ord.kp ?_ ?_
          · exact ⟨HKR.out _ hR12, hB12, hD12.cell 15, hD12.cell 16, hD12.cell 17⟩
          clear hS
          intro hS
          try simp only [List.setIfInBounds_toArray, List.set_cons_zero, List.set_cons_succ]
          refine Ord.step (i := 28) rfl (by kernel_rfl) (by rfl) ?_
          intro K HK
          go_simp
          go_at_call 24
          refine (HC24.out _ hJ12.tabs).mono ?_
          rintro e wH ⟨rfl, hbH⟩
          replace hJ12 := hJ12.next hbH
          replace hR12 := hR12.next hbH
          replace hru12 := hru12.next hbH
          replace hB12 := hB12.next hbH
          replace hD12 := hD12.next hbH
          replace hbJ12 := more hbJ12 hbH
          refine HK.out _ _ ?_
          clear HK
          refine Ord.kp ?_ ?_
          · exact ⟨HKR.out _ hR12, hB12, hD12.cell 15, hD12.cell 16, hD12.cell 17⟩
          clear hS
          intro hS
          try simp only [List.setIfInBounds_toArray, List.set_cons_zero, List.set_cons_succ]
          refine Ord.tp 29 208 rfl rfl ?_
          refine Ord.tp 30 209 rfl rfl ?_
          refine Ord.tp 31 210 rfl rfl ?_
          refine Ord.tp 32 211 rfl rfl ?_
          refine Ord.tk 33 212 rfl rfl (yields_load1 (by rfl) 41 _ rfl w11.heap.size 15 rfl (.int .i64 1) Tryz.isAgg41 (fun W hSW => hSW.2.2.1)) ?_
          refine Ord.tp 34 213 rfl rfl ?_
          refine Ord.tp 35 214 rfl rfl ?_
          refine Ord.tp 36 215 rfl rfl ?_
          refine Ord.tp 37 216 rfl rfl ?_
          refine Ord.tk 38 217 rfl rfl (yields_load1 (by rfl) 41 _ rfl w11.heap.size 17 rfl (.int .i64 1) Tryz.isAgg41 (fun W hSW => hSW.2.2.2.2)) ?_
          refine Ord.tp 39 218 rfl rfl ?_
          refine Ord.tp 40 219 rfl rfl ?_
          refine Ord.tp 41 220 rfl rfl ?_
          refine Ord.tp 42 221 rfl rfl ?_
          refine Ord.tk 43 222 rfl rfl (yields_load1 (by rfl) 41 _ rfl w11.heap.size 16 rfl (.int .i64 2) Tryz.isAgg41 (fun W hSW => hSW.2.2.2.1)) ?_
          refine Ord.step (i := 44) rfl (by kernel_rfl) (by rfl) ?_
          intro K HK
          go_simp
          refine HK.out _ _ ?_
          clear HK
          refine ⟨Ord.np (by kernel_rfl), ?_⟩
          try simp only [List.setIfInBounds_toArray, List.set_cons_zero, List.set_cons_succ]
          refine Ord.tf 45 224 rfl rfl ?_
          refine Ord.done (by kernel_rfl) ?_ _
          clear hS
          have hc3 : wH.cell? ⟨w9.heap.size, 3, none⟩ = some (.string q) := hB12.cell 3
          go_wp2_with (first | (go_at_call 26; refine (HC26.out _ hJ12.tabs).mono ?_; rintro e w13 ⟨rfl, hb13⟩; have hJ13 := hJ12.next hb13; have hR13 := hR12.next hb13; have hru13 := hru12.next hb13; have hbJ13 := more hbJ12 hb13) | (go_at_call 9; refine (num9 _ _).mono ?_; rintro e w' ⟨rfl, rfl⟩))
          go_roundg fu
          case measure => omega
          case rel =>
            obtain ⟨h1, h2, h3⟩ := HF4.out
            exact ⟨j2, _, rfl, by go_num, h1, hJ13, hR13, hru13, hbJ13, by omega⟩
        · as_aux_lemma =>
          obtain rfl : j = n := by omega
          have hltj : ¬ (j : Int) < (j : Int) := by omega
          have hall : ofU (U.take j) = s := by rw [← HN9.out, List.take_length]; exact HU.out.2.1
          rw [hall]
          have hq3 := eql_ss s
          have hq4 := fun W => eql_vn hn5 W
          have hq5 := fun W => conv_fl j W
          have hF9 : 90000 ≤ F2 := by omega
          have HC28 : Hid (∀ W, Calls Tryz.prog 28 #[.float .f64 (flN j)] W fun e w' => e = .returned (.agg #[.int .i64 4, .bool false, .float .f64 (flN j), .string ByteArray.empty, .int .i64 0]) ∧ Below W.heap.size W w') := Lib.hid fun W => num28 (flN j) W
          clear hall hj hF2 hlt hru hR
          go_upto_region 43 with (first | (go_at_call 11; refine (null11 _).mono ?_; rintro e w7 ⟨rfl, hb7⟩; have hJ7 := hJ.next hb7; have hbJ7 := more hbJ hb7) | (go_at_call 21; refine (HCL.out _ _ hJ7 (by omega)).mono ?_; rintro e w8 ⟨rfl, hJ8, k8⟩; have hbJ8 := hbJ7.trans k8.below) | ((with_reducible show wpList _ _ _ (⟨some 25, .alloc 36, _, _, _, _⟩ :: _) _ _); refine wpList_alloc_blk rfl 36 rfl _ zero36 ?_; intro wA hA25 hLA25 hsA; clear hsA) | ((with_reducible show wpList _ _ _ (⟨_, .store 36 (.tmp 25) _, _, _, _, _⟩ :: _) _ _); refine wpList_store_blk rfl 36 _ _ rfl _ #[.int .i64 4, .bool false, .float .f64 (flN j), .string ByteArray.empty, .int .i64 0] _ 36 rfl rfl hA25 Tryz.size36 rfl (vArr_one ⟨4, false, flN j, ByteArray.empty, 0⟩) ?_; intro w9 hB9 hO9; have hbT : Below w8.heap.size w8 w9 := hLA25.trans (hO9.below _ hLA25.size (by simp)); have hJ9 := hJ8.next hbT; have hbJ9 := more hbJ8 hbT; clear hbT hO9 hLA25 hA25) | (go_at_call 27; refine (q_data hJ9).mono ?_; rintro e w10 ⟨rfl, hb10⟩; have hbJ10 := more hbJ9 hb10; have hB10 := hB9.next hb10))
          clear hJ hJ7 hJ8 hbJ hbJ7 hbJ8
          refine Ord.region (fun W => Blk W w8.heap.size #[.int .i64 4, .bool false, .float .f64 (flN j), .string ByteArray.empty, .int .i64 0] 36) [23, 24, 25] (by kernel_rfl) (hB10.next (Below.refl _ _).drew) ?_
          intro hS
          replace hB10 := hB10.next (Below.refl _ _).drew
          replace hbJ10 := more hbJ10 (Below.refl _ _).drew
          refine Ord.tp 0 248 rfl rfl ?_
          refine Ord.tp 1 249 rfl rfl ?_
          refine Ord.tp 2 250 rfl rfl ?_
          refine Ord.tp 3 251 rfl rfl ?_
          refine Ord.tp 4 252 rfl rfl ?_
          refine Ord.tp 5 253 rfl rfl ?_
          refine Ord.tp 6 254 rfl rfl ?_
          refine Ord.tp 7 255 rfl rfl ?_
          refine Ord.tk 8 256 rfl rfl (yieldsIf_load_mid (by rfl) 36 _ rfl w8.heap.size 0 rfl ([.int .i64 4, .bool false, .float .f64 (flN j), .string ByteArray.empty, .int .i64 0]) _ (fun W hSW => range_all hSW) Tryz.underlying36 rfl Tryz.size36) ?_
          refine Ord.tp 9 257 rfl rfl ?_
          refine Ord.tp 10 258 rfl rfl ?_
          refine Ord.tp 11 259 rfl rfl ?_
          refine Ord.step (i := 12) rfl (by kernel_rfl) (by rfl) ?_
          intro K HK
          go_simp
          go_at_call 28
          refine (HC28.out _).mono ?_
          rintro e wF ⟨rfl, hbF⟩
          replace hB10 := hB10.next hbF
          replace hbJ10 := more hbJ10 hbF
          refine HK.out _ _ ?_
          clear HK
          refine Ord.kp ?_ ?_
          · exact hB10
          clear hS
          intro hS
          try simp only [List.setIfInBounds_toArray, List.set_cons_zero, List.set_cons_succ]
          refine Ord.tp 13 261 rfl rfl ?_
          refine Ord.tp 14 262 rfl rfl ?_
          refine Ord.tp 15 263 rfl rfl ?_
          refine Ord.tp 16 264 rfl rfl ?_
          refine Ord.tp 17 265 rfl rfl ?_
          refine Ord.tp 18 266 rfl rfl ?_
          refine Ord.tp 19 267 rfl rfl ?_
          refine Ord.tp 20 268 rfl rfl ?_
          refine Ord.tp 21 269 rfl rfl ?_
          refine Ord.step (i := 22) rfl (by kernel_rfl) (by rfl) ?_
          intro K HK
          go_simp
          go_at_call 9
          refine (num9 _ _).mono ?_
          rintro e wG ⟨rfl, rfl⟩
          refine HK.out _ _ ?_
          clear HK
          refine ⟨Ord.np (by kernel_rfl), ?_⟩
          try simp only [List.setIfInBounds_toArray, List.set_cons_zero, List.set_cons_succ]
          refine Ord.tf 23 271 rfl rfl ?_
          refine Ord.tf 24 272 rfl rfl ?_
          refine Ord.tf 25 6 rfl rfl ?_
          refine Ord.done (by kernel_rfl) ?_ _
          clear hS
          go_wp2
          go_ret
          exact ⟨rfl, hbJ10⟩

end Go.Proofs.YtoalboilghgalaaGreatDoor
