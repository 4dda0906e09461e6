/- Lemmas for this claim, in parts: Conc, Snew, Sinv. -/
import Derived.Test.YtoalboilghgalaaGreatDoorC42
import Derived.Test.YtoalboilghgalaaGreatDoorC37
import Derived.Test.YtoalboilghgalaaGreatDoorC39
set_option maxRecDepth 100000
set_option maxHeartbeats 4000000
set_option linter.unusedVariables false
set_option linter.unusedSimpArgs false
/- units.Concat. -/
namespace Go.Proofs.YtoalboilghgalaaGreatDoor
open Go.RowKit
open Go.Proofs.Dc (V Ds Ky)
attribute [local go_sem] run_store_float

attribute [local go_sem] Oper.semAt_some
theorem uRow_at {W : World} {base n : Nat} {g cap : Nat} {U : List Int} (h : W.ownsRow base 121 1 (.slice (some ⟨g, 0, none⟩) n cap) n (U.map (Value.int .u16))) (hn : U.length = n) : UAt W g 0 U := fun j hj => by
  rw [Nat.zero_add, h.cellAt j (by omega)]
  simp [hj]

set_option maxRecDepth 100000 in
set_option maxHeartbeats 1000000 in
theorem concat_any (a b : ByteArray) (w : World) (hT : Tabs w) (ha : a.size + 2 ≤ 1099511627776) (hva : uvalid a = true) (hb : b.size + 2 ≤ 1099511627776) (hvb : uvalid b = true) (hne : 0 < (unitsL b).length) (hlen : (unitsL a).length + (unitsL b).length ≤ 4000000) (hsz : (ofU (unitsL a ++ unitsL b)).size ≤ 1048576) :
    Calls Tryz.prog 26 #[.string a, .string b] w fun e w' => e = .returned (.tuple #[.string (ofU (unitsL a ++ unitsL b)), .int .i64 0]) ∧ Below w.heap.size w w' := by
  have HU : ∀ x ∈ unitsL a ++ unitsL b, IsU x := fun x hx => by
    rcases List.mem_append.1 hx with hx | hx
    · exact unitsL_isU hva x hx
    · exact unitsL_isU hvb x hx
  have c19a := fun W h => units_g a W h ha hva
  have c19b := fun W h => units_g b W h hb hvb
  obtain ⟨xs, hxs⟩ : ∃ xs, xs = unitsL a := ⟨_, rfl⟩
  obtain ⟨ys, hys⟩ : ∃ ys, ys = unitsL b := ⟨_, rfl⟩
  simp only [← hxs] at c19a hlen hsz HU ⊢
  simp only [← hys] at c19b hlen hsz hne HU ⊢
  have cOf := fun g n cap hn W hU hg => uof_any g 0 n cap (xs ++ ys) hn W hU hg HU (by rw [← hn, List.length_append]; exact hlen)
  obtain ⟨q, hq⟩ : ∃ q, q = ofU (xs ++ ys) := ⟨_, rfl⟩
  simp only [← hq] at cOf hsz ⊢
  have HT := Lib.hid hT
  have HB := Lib.hid hne
  have HL := Lib.hid hlen
  obtain ⟨i0, hi0, hz0, hz1, hz2⟩ := info_parts info121
  have hszi : (q.size : Int) ≤ 1048576 := by omega
  clear hT ha hva hb hvb hne hlen hsz hxs hys hq HU
  go_enter Tryz.func26, Tryz.ntmps26
  go_wp2_with (first | (go_at_call 19; (with_reducible show Calls Tryz.prog 19 #[.string a] _ _); refine (c19a _ HT.out).mono ?_; rintro e w1 ⟨v, rfl, hG1, hown1⟩; obtain ⟨ra, ca, rfl⟩ := row_slice hown1) | (go_at_call 19; (with_reducible show Calls Tryz.prog 19 #[.string b] _ _); refine (c19b _ (HT.out.below hG1.below)).mono ?_; rintro e w2 ⟨v2, rfl, hG2, hown2⟩; obtain ⟨g2, c2, rfl, hg2, _⟩ := World.ownsRow.form hown2 HB.out; have hb02 : Below w.heap.size w w2 := hG1.below.trans (hG2.below.mono hG1.below.size)) | ((with_reducible show wpList _ _ _ (⟨some 28, .call _, _, _, _, _⟩ :: _) _ _); refine wpList_append_own_at w2 rfl (.tmp 26) (.tmp 27) 52 rfl w.heap.size 121 i0 _ 1 2 Tryz.underlying52 hi0 hz0 hz1 hz2 rfl (by decide) _ xs.length (xs.map (Value.int .u16)) rfl (ownsRow_only hown1 (Only.of_below (S := []) hG2.below) (by simp)) ⟨g2, 0, none⟩ ys.length c2 (ys.map (Value.int .u16)) rfl (by simp) (fun j u hu => by rw [addr_addE, hown2.cellAt j (by have := (List.getElem?_eq_some_iff.1 hu).1; simpa using this)]; exact hu) (fun u hu => by obtain ⟨y, _, rfl⟩ := List.mem_map.1 hu; rfl) (by have := HL.out; unfold maxLen; omega) (by have := HL.out; omega) (by have := hb02.size; omega) ?_; intro v' w3 hown3 hgr _ _; obtain ⟨g', cap', rfl, hg', _⟩ := World.ownsRow.form hown3 (by have := HB.out; omega); have hb03 := hb02.grown hgr (by have := hb02.size; omega) (ownsBase hown1); rw [← List.map_append] at hown3; have hU := uRow_at hown3 (by rw [List.length_append]); have hlt3 := (hown3.lt g' rfl).2) | (go_at_call 25; refine (cOf g' _ cap' (by rw [List.length_append]) _ hU (.inr hlt3)).mono ?_; rintro e w4 ⟨rfl, hb4⟩))
  go_ret2
  exact ⟨rfl, hb03.trans (hb4.mono hb03.size)⟩


end Go.Proofs.YtoalboilghgalaaGreatDoor

/- strobj.New. -/
namespace Go.Proofs.YtoalboilghgalaaGreatDoor
open Go.RowKit
open Go.Proofs.Dc (V Ds Ky)
attribute [local go_sem] run_store_float

attribute [local go_sem] Oper.semAt_some
def kLen : Ky := ⟨⟨#[108, 101, 110, 103, 116, 104]⟩, 0⟩
/-- a float of a number -/
def flN (n : Nat) : Nat := FloatKind.f64.nearest (n : Int)
def lenX (x : Nat) : Ds := { Dc.d0 with val := ⟨4, false, x, ByteArray.empty, 0⟩, w := 1, e := 1, c := 1 }
def lenD (n : Nat) : Ds := lenX (flN n)
theorem conv_fl (n : Nat) (W : World) : (convert 3 34 (.int .i64 (n : Nat))).run Tryz.prog W = .ok (.float .f64 (flN n)) W := by kernel_rfl
theorem kLen_good : kgood kLen = true := by
  have h2 : uvalid kLen.str = true := ascii_valid [108, 101, 110, 103, 116, 104] (by decide)
  unfold kgood
  rw [h2]
  rfl
theorem sat_of {W : World} {xb base n : Nat} {s : ByteArray} {v : Value} {U : List Int} (hB : Blk W xb #[.string s, v] 107) (hown : W.ownsRow base 121 1 v n (U.map (Value.int .u16))) (hn : n = U.length) (hu : ∀ x ∈ U, IsU x) (hl : U.length ≤ 2000000) : ∃ g cap A, SAt W xb s g cap A U := by
  subst hn
  obtain ⟨h1, h2⟩ := hown
  rcases h2 with ⟨rfl, h2⟩ | ⟨g, cap, cur, rfl, hg, hh, hn, hc, hs, ht⟩
  · have hU := List.eq_nil_of_length_eq_zero h2
    subst hU
    exact ⟨0, 0, none, hB, .inl ⟨rfl, rfl⟩, hu, hl, Nat.le_refl _⟩
  · exact ⟨g, cap, some ⟨g, 0, none⟩, hB, .inr ⟨rfl, cur, hh, uRow_at (base := base) ⟨h1, .inr ⟨g, cap, cur, rfl, hg, hh, hn, hc, hs, ht⟩⟩ rfl⟩, hu, hl, hn⟩
/-- behind New of a string -/
def SNewP (s : ByteArray) (bg : Int) (n0 : Nat) (w : World) (hb : Nat) (c f : Int) (e : Ending) (w' : World) : Prop :=
  ∃ ov ob tp xb g uc A, e = .returned (.tuple #[.int .i64 1, .nilIface]) ∧ StX n0 w' hb ov ob tp c f 0 (kS 5 (bg + 1) xb) true [(kLen, lenD (unitsL s).length)] ∧ Keeps n0 w w' ∧ SAt w' xb s g uc A (unitsL s)

theorem snew_bad (hb : Nat) (c f : Int) (s : ByteArray) (w : World) (hT : Tabs w) (hs : s.size ≤ 1048576) (hv : uvalid s = false) (hH : Blk w hb (hArr c f 5 0 (.slice none 0 0)) 102) :
    Calls Tryz.prog 10 #[.pointer (some ⟨hb, 0, none⟩), .agg (vArr vN), .string s] w fun e w' => e = .returned (.tuple #[.int .i64 0, errV 5]) ∧ Below w.heap.size w w' := by
  have hk : vN.kind = 2 := rfl
  have c19 := fun W h => units_bad s W h (by omega) hv
  go_enter Tryz.func10, Tryz.ntmps10
  go_wp2_with (first | ((with_reducible show wpList _ _ _ (⟨_, .box 36 _, _, _, _, _⟩ :: _) _ _); refine wpList_box_blk rfl 36 _ rfl (vArr vN) rfl ?_; intro w1 hV hL hs; clear hs; have hcV := hV.cellV; have hHa := hH.next hL) | (go_at_call 43; refine (ncheck hb _ (hT.below hL)).mono ?_; rintro e w2 ⟨rfl, hb2⟩; have hV2 := hV.next hb2; have hL2 := more hL hb2; have hHb := hHa.next hb2; clear hcV) | ((with_reducible show wpList _ _ _ (⟨_, .load 36 _, _, _, _, _⟩ :: _) _ _); refine wpList_load_blk rfl 36 _ rfl _ rfl hV Tryz.row36 Tryz.size36 ?_) | (go_at_call 19; refine (c19 _ (hT.below hL2)).mono ?_; rintro e w3 ⟨rfl, hG3⟩; have hV3 := hV2.next hG3.below; have hcV3 := hV3.cellV; have hL3 := more hL2 hG3.below))
  go_ret2
  exact ⟨rfl, hL3⟩
theorem snew_ok (n0 hb : Nat) (bg c f : Int) (s : ByteArray) (w : World) (hn : n0 ≤ w.heap.size) (hnb : n0 ≤ hb) (hT : Tabs w) (htn : Tryz.lays197_ren.g 3 < n0 ∧ Tryz.lays197_ren.g 4 < n0) (h1 : 1 ≤ c) (hbd : bg < 1000000 ∧ 0 ≤ f ∧ f ≤ bg) (hs : s.size ≤ 1048576) (hv : uvalid s = true) (hul : (unitsL s).length ≤ 2000000) (hH : Blk w hb (hArr c f 5 0 (.slice none 0 0)) 102) :
    Calls Tryz.prog 10 #[.pointer (some ⟨hb, 0, none⟩), .agg (vArr vN), .string s] w fun e w' => SNewP s bg n0 w hb c f e w' := by
  have hk : vN.kind = 2 := rfl
  have c19 := fun W h => units_g s W h (by omega) hv
  have hiu := unitsL_isU hv
  have hszi : ¬ (1048576 : Int) < (s.size : Int) := by omega
  unfold SNewP lenD
  obtain ⟨U, hU⟩ : ∃ U, U = unitsL s := ⟨_, rfl⟩
  simp only [← hU] at c19 hiu hul ⊢
  obtain ⟨x, hx⟩ : ∃ x, x = flN U.length := ⟨_, rfl⟩
  simp only [← hx]
  have hcv : ∀ W, (convert 3 34 (.int .i64 (U.length : Nat))).run Tryz.prog W = .ok (.float .f64 x) W := fun W => by
    rw [hx]
    exact conv_fl _ W
  have c28 : ∀ W, Calls Tryz.prog 28 #[.float .f64 x] W fun e w' => e = .returned (.agg #[.int .i64 4, .bool false, .float .f64 x, .string ByteArray.empty, .int .i64 0]) ∧ Below W.heap.size W w' := fun W => num28 x W
  have HX := Lib.hid (And.intro hx (And.intro hiu hul))
  have HB := Lib.hid hbd
  clear hU hiu hx hul hbd
  go_enter Tryz.func10, Tryz.ntmps10
  go_wp2_with (first | ((with_reducible show wpList _ _ _ (⟨_, .box 36 _, _, _, _, _⟩ :: _) _ _); refine wpList_box_blk rfl 36 _ rfl (vArr vN) rfl ?_; intro w1 hV hL hs; clear hs; have hcV := hV.cellV; have hHa := hH.next hL) | (go_at_call 43; refine (ncheck hb _ (hT.below hL)).mono ?_; rintro e w2 ⟨rfl, hb2⟩; have hV2 := hV.next hb2; have hL2 := more hL hb2; have hHb := hHa.next hb2; clear hcV) | ((with_reducible show wpList _ _ _ (⟨_, .load 36 _, _, _, _, _⟩ :: _) _ _); refine wpList_load_blk rfl 36 _ rfl _ rfl hV Tryz.row36 Tryz.size36 ?_) | ((with_reducible show wpList _ _ _ (⟨_, .load 36 _, _, _, _, _⟩ :: _) _ _); refine wpList_load_blk rfl 36 _ rfl _ rfl hV4 Tryz.row36 Tryz.size36 ?_) | (go_at_call 19; refine (c19 _ (hT.below hL2)).mono ?_; rintro e w3 ⟨v, rfl, hG3, hown3⟩; have hV3 := hV2.next hG3.below; have hcV3 := hV3.cellV; have hL3 := more hL2 hG3.below; have hHc := hHb.next hG3.below; obtain ⟨ra, ca, rfl⟩ := row_slice hown3) | ((with_reducible show wpList _ _ _ (⟨_, .box 107 _, _, _, _, _⟩ :: _) _ _); refine wpList_box_blk rfl 107 _ rfl #[.string s, .slice ra U.length ca] rfl ?_; intro w4 hX hL4 hs4; clear hs4; have hV4 := hV3.next hL4; have hHd := hHc.next hL4; have h04 := more hL3 hL4; have hown4 := ownsRow_only hown3 (Only.of_below (S := []) hL4) (by simp); clear hcV3) | (go_at_call 50; refine (addS n0 hb w3.heap.size bg c f _ (Nat.le_trans hn h04.size) hnb (hT.below h04) htn h1 ⟨by have := HB.out; omega, HB.out.2⟩ hHd).mono ?_; rintro e w5 ⟨ov, ob, rfl, s5, k5⟩) | (go_at_call 28; refine (c28 _).mono ?_; rintro e w6 ⟨rfl, hb6⟩; have s6 := s5.below hb6; have k6 := k5.trans (Keeps.of_below hb6 s5.sz)) | (go_at_call 51; refine (lay_any s6 kLen (lenX x) kLen_good HB.out.1).mono ?_; rintro e w7 ⟨rfl, tp7, s7, k7⟩))
  go_ret2
  obtain ⟨g, cap, A, hS⟩ := sat_of hX hown4 rfl HX.out.2.1 HX.out.2.2
  exact ⟨ov, ob, tp7, w3.heap.size, g, cap, A, rfl, s7, (Keeps.of_below h04 hn).trans (k6.trans k7), hS.keeps (k6.trans k7)⟩


end Go.Proofs.YtoalboilghgalaaGreatDoor

/- What stays true of a String object's properties: plain Lean. -/
namespace Go.Proofs.YtoalboilghgalaaGreatDoor
open Go.RowKit
open Go.Proofs.Dc (V Ds Ky)

theorem overV_num {a b : V} (h1 : a.num < 2 ^ 64) (h2 : b.num < 2 ^ 64) : (Dc.overV a b).num < 2 ^ 64 := by unfold Dc.overV; split <;> assumption
theorem fill_num2 {a : V} (h1 : a.num < 2 ^ 64) : (Dc.fill a).num < 2 ^ 64 := by
  unfold Dc.fill; split
  · exact h1
  · decide
theorem Nums.over {a b : Ds} (ha : Nums a) (hb : Nums b) : Nums (Dc.over a b) := ⟨overV_num ha.val hb.val, overV_num ha.get hb.get, overV_num ha.set hb.set⟩
theorem Nums.complete {uv : ByteArray → Bool} {a : Ds} (ha : Nums a) : Nums (Dc.complete uv a) := by
  unfold Dc.complete; split
  · exact ⟨ha.val, fill_num2 ha.get, fill_num2 ha.set⟩
  · exact ⟨fill_num2 ha.val, ha.get, ha.set⟩
theorem Nums.apply {uv : ByteArray → Bool} {ext : Bool} {a b : Ds} (ha : Nums a) (hb : Nums b) : Nums (Dc.apply uv ext a b).1 := by
  unfold Dc.apply
  split
  · split
    · exact hb.complete
    · exact ha
  · split
    · exact ha
    · split
      · exact Nums.complete ⟨hb.val, hb.get, hb.set⟩
      · exact ha.over hb
/-- neither accessor is an object -/
def NR (d : Ds) : Prop := ¬ d.get.kind = 7 ∧ ¬ d.set.kind = 7
theorem fill_nr {a : V} (h : ¬ a.kind = 7) : ¬ (Dc.fill a).kind = 7 := by
  unfold Dc.fill; split
  · exact h
  · decide
theorem overV_nr {a b : V} (h1 : ¬ a.kind = 7) (h2 : ¬ b.kind = 7) : ¬ (Dc.overV a b).kind = 7 := by unfold Dc.overV; split <;> assumption
theorem NR.complete {uv : ByteArray → Bool} {a : Ds} (h : NR a) : NR (Dc.complete uv a) := by
  unfold Dc.complete; split
  · exact ⟨fill_nr h.1, fill_nr h.2⟩
  · exact h
theorem NR.apply {uv : ByteArray → Bool} {ext : Bool} {a b : Ds} (ha : NR a) (hb : NR b) : NR (Dc.apply uv ext a b).1 := by
  unfold Dc.apply
  split
  · split
    · exact hb.complete
    · exact ha
  · split
    · exact ha
    · split
      · exact NR.complete hb
      · exact ⟨overV_nr ha.1 hb.1, overV_nr ha.2 hb.2⟩
theorem seq_empty {a : ByteArray} (h : Dc.isE a = true) : a = ByteArray.empty := by
  unfold Dc.isE at h
  apply ByteArray.ext
  have : a.data.size = 0 := by simpa using h
  exact Array.eq_empty_of_size_eq_zero this
/-- a number that is no NaN is like itself alone -/
theorem alike_num {v : V} {x : Nat} (hx : Fl.fnan x = false) (h : Dc.alike uvalid v ⟨4, false, x, ByteArray.empty, 0⟩ = true) (ht : Dc.there v = true) : v = ⟨4, false, x, ByteArray.empty, 0⟩ := by
  unfold Dc.alike at h
  have h0 : Dc.there (⟨4, false, x, ByteArray.empty, 0⟩ : V) = true := rfl
  rw [ht, h0] at h
  simp only [Bool.not_true, Bool.or_self, Bool.false_eq_true, if_false] at h
  unfold Dc.same at h
  simp only [Bool.and_eq_true, beq_iff_eq] at h
  obtain ⟨⟨⟨hg, _⟩, hk⟩, hs⟩ := h
  rw [if_pos hk] at hs
  unfold Fl.same at hs
  rw [hx, Bool.and_false, Bool.or_false, beq_iff_eq] at hs
  unfold Dc.good Dc.plain at hg
  simp only [hk, Bool.and_eq_true, Bool.or_eq_true, beq_iff_eq, Bool.not_eq_true'] at hg
  obtain ⟨_, ⟨⟨hb, hst⟩, hid⟩, _⟩ := hg
  obtain ⟨k, b, n, s, i⟩ := v
  simp only at hk hs hb hst hid
  have hb' : b = false := by simpa using hb
  have hs' : s = ByteArray.empty := seq_empty (by simpa using hst)
  have hi' : i = 0 := by simpa using hid
  subst hk hs hb' hs' hi'
  rfl
theorem kind_len (x : Nat) : Dc.kindN uvalid (lenX x) = 1 := by
  simp [Dc.kindN, Dc.formed, lenX, Dc.callab, Dc.absent, Dc.d0, Dc.v0, Dc.isE, Dc.tri, Dc.there, Dc.good, Dc.vin, Dc.plain]
/-- 'length' stays as it is -/
theorem apply_len {x : Nat} (hx : Fl.fnan x = false) {ext : Bool} {d : Ds} (hk : Dc.kindB uvalid d = true) (ho : (Dc.apply uvalid ext (lenX x) d).2 = true) : (Dc.apply uvalid ext (lenX x) d).1 = lenX x := by
  have hf : Dc.formed uvalid d = true := by
    cases hh : Dc.formed uvalid d
    · simp [Dc.kindB, hh] at hk
    · rfl
  have htri : (0 ≤ d.w ∧ d.w ≤ 2) ∧ (0 ≤ d.e ∧ d.e ≤ 2) ∧ 0 ≤ d.c ∧ d.c ≤ 2 := by
    simp only [Dc.formed, Bool.and_eq_true, Dc.tri, decide_eq_true_eq] at hf
    exact ⟨hf.1.1.2, hf.1.2, hf.2⟩
  have hz : Dc.zero (lenX x) = false := rfl
  have hc1 : ((lenX x).c == 1) = true := rfl
  unfold Dc.apply at ho ⊢
  rw [hz] at ho ⊢
  simp only [Bool.false_eq_true, if_false, hc1, Bool.true_and] at ho ⊢
  cases hb : Dc.barred uvalid (lenX x) d with
  | true => rw [hb] at ho; simp at ho
  | false =>
    rw [hb] at ho
    simp only [Bool.false_eq_true, if_false] at ho ⊢
    unfold Dc.barred at hb
    rw [kind_len] at hb ⊢
    split at hb
    · cases hb
    · rename_i h1
      simp only [Bool.or_eq_true, beq_iff_eq, Bool.and_eq_true, bne_iff_ne, not_or, not_and, Decidable.not_not] at h1
      have he : d.e = 0 ∨ d.e = 1 := by
        by_cases h : d.e = 0
        · exact .inl h
        · exact .inr (h1.2 h)
      have hov : Dc.overT 1 d.e = 1 := by unfold Dc.overT; split <;> omega
      have hoc : Dc.overT 1 d.c = 1 := by unfold Dc.overT; split <;> omega
      have hkb := hk
      unfold Dc.kindB at hkb
      rw [hf] at hkb
      simp only [Bool.not_true, Bool.false_eq_true, if_false] at hkb
      have key : Dc.there d.get = false ∧ Dc.there d.set = false ∧ ¬ d.w = 2 ∧ (Dc.there d.val = true → d.val = ⟨4, false, x, ByteArray.empty, 0⟩) := by
        unfold Dc.kindN at hb
        rw [hf] at hb
        simp only [Bool.not_true, Bool.false_eq_true, if_false] at hb
        cases hv : (Dc.there d.val || d.w != 0) with
        | true =>
          rw [hv] at hb hkb
          simp only [if_true] at hb
          simp only [if_true, Bool.not_eq_true', Bool.or_eq_false_iff] at hkb
          refine ⟨hkb.1, hkb.2, ?_, fun ht => ?_⟩
          · intro h2
            rw [h2] at hb
            simp [lenX] at hb
          · have : Dc.alike uvalid d.val (lenX x).val = true := by
              rw [ht] at hb
              simp [lenX] at hb
              exact hb.2
            exact alike_num hx this ht
        | false =>
          rw [hv] at hb
          simp only [Bool.false_eq_true, if_false] at hb
          simp only [Bool.or_eq_false_iff, bne_eq_false_iff_eq] at hv
          cases hgs : (Dc.there d.get || Dc.there d.set) with
          | true =>
            rw [hgs] at hb
            simp at hb
          | false =>
            simp only [Bool.or_eq_false_iff] at hgs
            exact ⟨hgs.1, hgs.2, by rw [hv.2]; decide, fun h => by rw [hv.1] at h; cases h⟩
      obtain ⟨k1, k2, k3, k4⟩ := key
      have how : Dc.overT 1 d.w = 1 := by unfold Dc.overT; split <;> omega
      rw [if_neg]
      · unfold Dc.over
        have ev : Dc.overV (lenX x).val d.val = (lenX x).val := by
          unfold Dc.overV
          split
          · rename_i h; rw [k4 h]; rfl
          · rfl
        have eg : Dc.overV (lenX x).get d.get = (lenX x).get := by unfold Dc.overV; rw [k1]; rfl
        have es : Dc.overV (lenX x).set d.set = (lenX x).set := by unfold Dc.overV; rw [k2]; rfl
        have ew : Dc.overT (lenX x).w d.w = 1 := how
        have ee : Dc.overT (lenX x).e d.e = 1 := hov
        have ec : Dc.overT (lenX x).c d.c = 1 := hoc
        rw [ev, eg, es, ew, ee, ec]
        rfl
      · rintro ⟨h0, h1⟩
        apply h1
        unfold Dc.kindN at h0 ⊢
        rw [hf] at h0 ⊢
        simp only [Bool.not_true, Bool.false_eq_true, if_false, k1, k2, Bool.or_self] at h0 ⊢
        split at h0
        · rename_i h; rw [if_pos h]
        · exact absurd rfl h0

/-- .. of all properties of a String object -/
structure SInv (U : List Int) (L : List (Ky × Ds)) : Prop where
  ok : LOk L
  nums : LNums L
  noref : NoRef L
  units : ∀ p ∈ L, unitI U.length p.1 = none
  len : getL L kLen = some (lenD U.length)
  fin : Fl.fnan (flN U.length) = false
theorem get_ne {L : List (Ky × Ds)} {k : Ky} {d : Ds} (h : getL L k = some d) : L ≠ [] := by rintro rfl; cases h
theorem SInv.ne {U : List Int} {L : List (Ky × Ds)} (h : SInv U L) : L ≠ [] := get_ne h.len
theorem unitI_key {n : Nat} {a b : Ky} (h : keq a b = true) : unitI n a = unitI n b := by rw [keq_eq h]
theorem unitI_len (n : Nat) : unitI n kLen = none := by
  have h : dig kLen.str 9007199254740991 = none := by
    unfold dig
    rw [show kLen.str.data.toList = [108, 101, 110, 103, 116, 104] from rfl, show kLen.str.toList = [108, 101, 110, 103, 116, 104] from by rw [ByteArray.toList_eq]; rfl]
    rw [if_neg (by simp), if_neg (by decide), if_neg (by simp)]
    rfl
  unfold unitI
  rw [h]
  split <;> rfl
theorem unitI_none {U : List Int} {k : Ky} (h : unitD U k = none) : unitI U.length k = none := by
  cases hi : unitI U.length k with
  | none => rfl
  | some i => rw [unitD_some hi] at h; cases h
theorem SInv.start {U : List Int} (h1 : Fl.fnan (flN U.length) = false) (h2 : flN U.length < 2 ^ 64) : SInv U [(kLen, lenD U.length)] where
  ok := {
    nodup := by simp [KNodup]
    whole := fun p hp => by
      rw [List.mem_singleton] at hp; subst hp
      exact ⟨.inl rfl, .inl rfl, .inl ⟨by simp [Dc.good, Dc.vin, Dc.plain, lenD, lenX, Dc.isE], rfl, rfl, .inl rfl⟩⟩
    keys := fun p hp => by rw [List.mem_singleton] at hp; subst hp; exact kLen_good }
  nums := fun p hp => by rw [List.mem_singleton] at hp; subst hp; exact ⟨h2, show (0 : Nat) < 2 ^ 64 by decide, show (0 : Nat) < 2 ^ 64 by decide⟩
  noref := fun p hp => by rw [List.mem_singleton] at hp; subst hp; exact ⟨show ¬ (0 : Int) = 7 by decide, show ¬ (0 : Int) = 7 by decide⟩
  units := fun p hp => by rw [List.mem_singleton] at hp; subst hp; exact unitI_len _
  len := by rw [getL_cons, if_pos (keq_refl _)]
  fin := h1
theorem SInv.put {U : List Int} {L : List (Ky × Ds)} (h : SInv U L) {k : Ky} {d : Ds} (hk : kgood k = true) (hw : Dc.Whole uvalid d) (hn : Nums d) (hr : NR d) (hu : unitI U.length k = none) (hl : keq kLen k = true → d = lenD U.length) : SInv U (putL L k d) where
  ok := h.ok.put hk hw
  nums := fun p hp => by
    rcases mem_put hp with hp | ⟨hp, _⟩
    · exact h.nums p hp
    · rw [hp]; exact hn
  noref := fun p hp => by
    rcases mem_put hp with hp | ⟨hp, _⟩
    · exact h.noref p hp
    · rw [hp]; exact hr
  units := fun p hp => by
    rcases mem_put hp with hp | ⟨_, hp | ⟨q, hq, hp⟩⟩
    · exact h.units p hp
    · rw [hp]; exact hu
    · rw [← hp]; exact h.units q hq
  len := by
    rw [get_put]
    split
    · rename_i hq; rw [hl hq]
    · exact h.len
  fin := h.fin
theorem SInv.def {U : List Int} {L : List (Ky × Ds)} (h : SInv U L) {ext : Bool} {k : Ky} {d : Ds} (hk : kgood k = true) (hd : Dc.kindB uvalid d = true) (hn : Nums d) (hr : NR d) : SInv U (defLS ext L U k d) := by
  unfold defLS
  cases hu : unitD U k with
  | some u => exact h
  | none =>
    unfold defL
    simp only
    split
    · rename_i hok
      have hnr : NR ((getL L k).getD Dc.d0) := by
        cases hg : getL L k with
        | none => exact ⟨by decide, by decide⟩
        | some d' => obtain ⟨p, hp, rfl⟩ := get_mem hg; exact h.noref p hp
      refine h.put hk (Dc.apply_whole (h.ok.now k) hd hok) (Nums.apply (h.nums.get k) hn) (NR.apply hnr hr) (unitI_none hu) fun hq => ?_
      have e : getL L k = some (lenD U.length) := by rw [← keq_eq hq]; exact h.len
      rw [e] at hok ⊢
      exact apply_len h.fin hd hok
    · exact h
theorem SInv.del {U : List Int} {L : List (Ky × Ds)} (h : SInv U L) (k : Ky) : SInv U (delLS L U k) := by
  unfold delLS
  cases ho : ownS L U k with
  | none => exact h
  | some d =>
    simp only
    split
    · exact h
    · rename_i hc
      have hs := (del_sub L k).subset
      refine ⟨h.ok.del k, fun p hp => h.nums p (hs hp), fun p hp => h.noref p (hs hp), fun p hp => h.units p (hs hp), ?_, h.fin⟩
      rw [getL_del L k kLen h.ok.nodup, if_neg]
      · exact h.len
      · intro hq
        have e : getL L k = some (lenD U.length) := by rw [← keq_eq hq]; exact h.len
        unfold ownS at ho
        rw [e] at ho
        cases ho
        exact hc rfl
/-- a code unit's property is the code unit's -/
theorem SInv.unit {U : List Int} {L : List (Ky × Ds)} (h : SInv U L) {i : Nat} (hi : i < U.length) (hl : U.length ≤ 1000000) : ownS L U (idxK i) = some (unitP U[i]) := by
  have hI := unitI_idx hi (by omega)
  unfold ownS
  cases hg : getL L (idxK i) with
  | none => exact unitD_some hI
  | some d =>
    exfalso
    obtain ⟨p, hp, hpd⟩ := get_mem hg
    have : ∀ (M : List (Ky × Ds)), getL M (idxK i) = some d → ∃ p ∈ M, keq (idxK i) p.1 = true := by
      intro M
      induction M with
      | nil => intro h; cases h
      | cons q s ih =>
        intro h
        rw [getL_cons] at h
        by_cases hx : keq (idxK i) q.1 = true
        · exact ⟨q, by simp, hx⟩
        · rw [if_neg hx] at h
          obtain ⟨p, hp, h2⟩ := ih h
          exact ⟨p, by simp [hp], h2⟩
    obtain ⟨q, hq, hk⟩ := this L hg
    have := h.units q hq
    rw [← unitI_key hk, hI] at this
    cases this
theorem SInv.length {U : List Int} {L : List (Ky × Ds)} (h : SInv U L) : ownS L U kLen = some (lenD U.length) := by unfold ownS; rw [h.len]
theorem unit_data {x : Int} (h : IsU x) : (Dc.kindB uvalid (unitP x) && Dc.kindN uvalid (unitP x) == 1) = true := by
  have hg := unit_good h
  simp [Dc.kindB, Dc.kindN, Dc.formed, unitP, unitQ, hg, Dc.callab, Dc.absent, Dc.d0, Dc.v0, Dc.isE, Dc.tri, Dc.there]
theorem len_data (x : Nat) : (Dc.kindB uvalid (lenX x) && Dc.kindN uvalid (lenX x) == 1) = true := by
  rw [kind_len]
  simp [Dc.kindB, Dc.formed, lenX, Dc.callab, Dc.absent, Dc.d0, Dc.v0, Dc.isE, Dc.tri, Dc.there, Dc.good, Dc.vin, Dc.plain]
theorem flN_ok : ((List.range 501).all fun n => decide (flN n < 2 ^ 64) && !Fl.fnan (flN n)) = true := by decide +kernel

end Go.Proofs.YtoalboilghgalaaGreatDoor
