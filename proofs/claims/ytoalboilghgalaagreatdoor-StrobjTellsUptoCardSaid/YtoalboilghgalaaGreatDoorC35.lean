/- Lemmas for this claim, in parts: Ord1, Ord3, Keys, Keyh. -/
import Derived.Test.YtoalboilghgalaaGreatDoorC33
import Derived.Test.YtoalboilghgalaaGreatDoorC34
import Derived.Test.YtoalboilghgalaaGreatDoorC18
set_option maxRecDepth 100000
set_option maxHeartbeats 4000000
set_option linter.unusedVariables false
set_option linter.unusedSimpArgs false
/- slices.Clone of keys; key.Order; table.Keys. -/
namespace Go.Proofs.YtoalboilghgalaaGreatDoor
open Go.RowKit
open Go.Proofs.Dc (V Ds Ky)
attribute [local go_sem] run_store_float

attribute [local go_sem] Oper.semAt_some
theorem Tryz.info40 : (Tryz.prog.info? 40).map (fun i => (i.zero, i.size, i.bytes)) = some (some (.agg #[.string ⟨#[]⟩, .int .i64 0]), 2, 24) := by kernel_rfl
theorem addr_add (g j : Nat) : (⟨g, 0, none⟩ : Addr).add j = ⟨g, j, none⟩ := by unfold Addr.add; by_cases h : j = 0 <;> simp [h]
theorem eq55_nil (w : World) : (binOp .eql 55 (.slice none 0 0) (.slice none 0 0)).run Tryz.prog w = .ok (.bool true) w := by kernel_rfl
theorem eq55_row (g : Nat) (n c : Nat) (w : World) : (binOp .eql 55 (.slice (some ⟨g, 0, none⟩) n c) (.slice none 0 0)).run Tryz.prog w = .ok (.bool false) w := by kernel_rfl
theorem kAll_one : ∀ (l : List Ky), ∀ u ∈ kAll l, u.oneCell' = true
  | [], u, h => by cases h
  | k :: r, u, h => by
    rw [kAll] at h
    rcases List.mem_cons.1 h with rfl | h
    · rfl
    · rcases List.mem_cons.1 h with rfl | h
      · rfl
      · exact kAll_one r u h
theorem clone_nil (w : World) : Calls Tryz.prog 260 #[.slice none 0 0] w fun e w' => e = .returned (.slice none 0 0) ∧ w = w' := by
  have he := eq55_nil
  go_enter Tryz.func260, Tryz.ntmps260
  go_wp2
  go_ret
  exact ⟨rfl, rfl⟩

theorem clone_row (g cap N : Nat) (r : List Value) (l : List Ky) (w : World) (hN : l.length = N) (h0 : 0 < N) (hNm : N ≤ 1000000) (hB : Blk w g (kRow l r) 40) :
    Calls Tryz.prog 260 #[.slice (some ⟨g, 0, none⟩) N cap] w fun e w' => ∃ g' cap', e = .returned (.slice (some ⟨g', 0, none⟩) N cap') ∧ RowAt w' w.heap.size 40 2 g' N cap' (kAll l) ∧ Below w.heap.size w w' := by
  obtain ⟨i0, hi0, hz0, hz1, hz2⟩ := info_parts Tryz.info40
  have hlen := kAll_length l
  have hnews : ∀ W, Below w.heap.size w W → ∀ j u, (kAll l)[j]? = some u → W.cell? ((⟨g, 0, none⟩ : Addr).add j) = some u := fun W hb j u hu => by
    have hj : j < (kAll l).length := (List.getElem?_eq_some_iff.1 hu).1
    have := (hB.next hb).cell j
    rw [show (⟨g, 0, none⟩ : Addr).add j = ⟨g, j, none⟩ from addr_add g j, this]
    unfold kRow
    rw [List.getElem?_toArray, List.getElem?_append_left hj]
    exact hu
  have h1 : ∀ u ∈ kAll l, u.oneCell' = true := kAll_one l
  have HN := Lib.hid hnews
  have HL := Lib.hid hlen
  have HLN := Lib.hid hN
  clear hnews hlen hN
  have he := eq55_row g N cap
  go_enter Tryz.func260, Tryz.ntmps260
  have hw1 : (w.alloc (.cells #[] 40)).ownsRow w.heap.size 40 2 (.slice (some ⟨w.heap.size, 0, none⟩) 0 0) 0 [] := ⟨rfl, .inr ⟨w.heap.size, 0, #[], rfl, Nat.le_refl _, heap_alloc_new w _, Nat.le_refl _, Nat.zero_le _, rfl, rfl⟩⟩
  have HW1 := Lib.hid hw1
  have hsz : w.heap.size ≤ (w.alloc (.cells #[] 40)).heap.size := by simp
  have HSZ := Lib.hid hsz
  clear hw1 hsz
  go_wp2_with ((with_reducible show wpList _ _ _ (⟨some 7, .call _, _, _, _, _⟩ :: _) _ _); refine Hid.out ?_)
  refine Lib.hid ?_
  refine wpList_append_own_at _ rfl (.tmp 5) (.tmp 6) 55 rfl w.heap.size 40 i0 _ 2 24 Tryz.underlying55 hi0 hz0 hz1 hz2 rfl (by decide) (.slice (some ⟨w.heap.size, 0, none⟩) 0 0) 0 [] rfl HW1.out ⟨g, 0, none⟩ N cap (kAll l) rfl (HL.out.trans (congrArg (· * 2) HLN.out)) (HN.out _ (one w _)) h1 (by unfold maxLen; omega) (by omega) HSZ.out ?_
  intro v' w2 hown hgr _ hat
  obtain ⟨g', cap', rfl, hg', _⟩ := World.ownsRow.form hown (by omega)
  go_wp2
  go_ret
  have hrow := RowAt.of hown
  exact ⟨g', cap', by simp, by simpa using hrow, (one w _).trans ⟨hgr.os, hgr.tape, hgr.output, Nat.le_trans (by simp) hgr.size, fun k hk => hgr.block k (by simp; omega) (fun e => by simp [Value.ownBlock] at e; omega)⟩⟩

end Go.Proofs.YtoalboilghgalaaGreatDoor

/- key.Order; table.Keys. -/
namespace Go.Proofs.YtoalboilghgalaaGreatDoor
open Go.RowKit
open Go.Proofs.Dc (V Ds Ky)
attribute [local go_sem] run_store_float

attribute [local go_sem] Oper.semAt_some
/-- a slice of keys in a row of its own, or nil -/
def KeysAt (W : World) (base : Nat) (v : Value) (l : List Ky) : Prop := (l = [] ∧ v = .slice none 0 0) ∨ ∃ g cap r, v = .slice (some ⟨g, 0, none⟩) l.length cap ∧ base ≤ g ∧ Blk W g (kRow l r) 40
theorem RowAt.krow {W : World} {base g N cap : Nat} {l : List Ky} (h : RowAt W base 40 2 g N cap (kAll l)) : ∃ r, Blk W g (kRow l r) 40 := by
  obtain ⟨cur, h1, _, _, _, h5⟩ := h.lies
  refine ⟨cur.toList.drop (N * 2), ?_⟩
  have e : cur = (kRow l (cur.toList.drop (N * 2))) := by
    unfold kRow
    rw [← h5, List.take_append_drop]
  rw [← e]
  exact h1
theorem stable_nil (w : World) : Calls Tryz.prog 261 #[.slice none 0 0, .func (.func 262) #[] #[]] w fun e w' => e = .returned (.tuple #[]) ∧ w = w' := by
  have h2 : ∀ w, Calls Tryz.prog 272 #[.slice none 0 0, .int .i64 0, .int .i64 0, .func (.func 262) #[] #[]] w fun e w' => e = .returned (.tuple #[]) ∧ w = w' := fun w => by
    go_enter Tryz.func272, Tryz.ntmps272
    go_wp2
    refine wp_loop_rounds 1 ?_
    rw [rounds_succ]
    go_wp2
    go_end0
    exact ⟨rfl, rfl⟩
  have h1 : ∀ w, Calls Tryz.prog 268 #[.slice none 0 0, .int .i64 0, .func (.func 262) #[] #[]] w fun e w' => e = .returned (.tuple #[]) ∧ w = w' := fun w => by
    go_enter Tryz.func268, Tryz.ntmps268
    go_wp2
    refine wp_loop_rounds 1 ?_
    rw [rounds_succ]
    go_wp2_with (go_at_call 272; refine (h2 _).mono ?_; rintro e w1 ⟨rfl, rfl⟩)
    refine wp_loop_rounds 1 ?_
    rw [rounds_succ]
    go_wp2
    go_end0
    exact ⟨rfl, rfl⟩
  go_enter Tryz.func261, Tryz.ntmps261
  go_wp2_with (go_at_call 268; refine (h1 _).mono ?_; rintro e w1 ⟨rfl, rfl⟩)
  go_end0
  exact ⟨rfl, rfl⟩

theorem order_nil (w : World) : Calls Tryz.prog 256 #[.slice none 0 0] w fun e w' => e = .returned (.tuple #[.slice none 0 0, .int .i64 0]) ∧ w = w' := by
  go_enter Tryz.func256, Tryz.ntmps256
  go_wp2
  refine wp_loop_rounds 1 ?_
  rw [rounds_succ]
  go_wp2_with (first | (go_at_call 260; refine (clone_nil _).mono ?_; rintro e w1 ⟨rfl, rfl⟩) | (go_at_call 261; refine (stable_nil _).mono ?_; rintro e w1 ⟨rfl, rfl⟩))
  go_ret2
  exact ⟨rfl, rfl⟩

theorem order_row (g cap N : Nat) (r : List Value) (l : List Ky) (w : World) (hN : l.length = N) (h0 : 0 < N) (hNm : N ≤ 1000000) (hT : Tabs w) (hk : ∀ k ∈ l, kgood k = true) (hB : Blk w g (kRow l r) 40) :
    Calls Tryz.prog 256 #[.slice (some ⟨g, 0, none⟩) N cap] w fun e w' => ∃ g' cap' r', e = .returned (.tuple #[.slice (some ⟨g', 0, none⟩) N cap', .int .i64 0]) ∧ w.heap.size ≤ g' ∧ Blk w' g' (kRow (Srt.stable ltK l) r') 40 ∧ Below w.heap.size w w' := by
  have HN := Lib.hid hN
  have HKK := Lib.hid hk
  have HBB := Lib.hid hB
  clear hN hk hB
  go_enter Tryz.func256, Tryz.ntmps256
  go_wp2
  go_loopg [10] N (fun fu s10 wr => ∃ i : Nat, s10 = .int .i64 i ∧ i + fu = N ∧ Below w.heap.size w wr)
  case atStart => exact ⟨0, rfl, by omega, Below.refl _ _⟩
  case round =>
    obtain ⟨i, rfl, hi, hb⟩ := hrel
    have hrowW := HBB.out.next hb
    have hTW := hT.below hb
    by_cases hlt : i < N
    · obtain ⟨x, hx⟩ : ∃ x, l[i]? = some x := ⟨_, List.getElem?_eq_getElem (by rw [HN.out]; exact hlt)⟩
      have hg : kgood x = true := HKK.out x (List.mem_of_getElem? hx)
      have hkc : ∀ W, Tabs W → Calls Tryz.prog 13 #[.agg (kArr x)] W fun e w' => e = .returned (.int .i64 0) ∧ Below W.heap.size W w' := fun W hT => by
        have := keycheck_any x W hT
        rw [hg, if_pos rfl] at this
        exact this
      have HK := Lib.hid hkc
      have HX := Lib.hid hx
      obtain ⟨fu, rfl⟩ : ∃ fu, gk = fu + 1 := ⟨gk - 1, by omega⟩
      obtain ⟨i2, hi2⟩ : ∃ i2, i + 1 = i2 := ⟨_, rfl⟩
      have e1 : (i : Int) + 1 = (i2 : Int) := by omega
      have e2 := wrap_nat i2 (by omega)
      have e3 : (0 : Int) ≤ (i : Int) := by omega
      have e4 : (i : Int) < (N : Int) := by omega
      have hi3 : i2 + fu = N := by omega
      have HI3 := Lib.hid hi3
      clear hx hg hkc hi2 hi3 hi
      go_wp2_with (first | ((with_reducible show wpList _ _ _ (⟨_, .load 40 (.tmp 12), _, _, _, _⟩ :: _) _ _); refine wpList_load_mid rfl 40 _ rfl g (i * 2) rfl [.string x.str, .int .i64 x.sym] _ (kRow_range hrowW i x HX.out) Tryz.underlying40 rfl Tryz.size40 ?_) | ((with_reducible show wpList _ _ _ (⟨_, .alloc 40, _, _, _, _⟩ :: _) _ _); refine wpList_alloc_blk rfl 40 rfl (kArr ⟨⟨#[]⟩, 0⟩) zero40 ?_; intro wa hA hLa hsa) | ((with_reducible show wpList _ _ _ (⟨_, .store 40 _ _, _, _, _, _⟩ :: _) _ _); refine wpList_store_blk rfl 40 _ _ rfl _ (kArr x) _ 40 rfl rfl hA Tryz.size40 rfl (kArr_one _) ?_; intro wb hA2 hOb) | ((with_reducible show wpList _ _ _ (⟨_, .load 40 (.tmp 5), _, _, _, _⟩ :: _) _ _); refine wpList_load_blk rfl 40 _ rfl _ rfl hA2 Tryz.row40 Tryz.size40 ?_) | (go_at_call 13; refine (HK.out _ (hTW.below ((hLa).trans (hOb.below _ hLa.size (by simp))))).mono ?_; rintro e wd ⟨rfl, hbd⟩))
      go_roundg fu
      case measure => omega
      case rel =>
        have h1 : Below wr.heap.size wr wb := hLa.trans (hOb.below _ hLa.size (by simp))
        exact ⟨i2, by go_num, HI3.out, hb.trans ((h1.trans (hbd.mono h1.size)).mono hb.size)⟩
    · obtain rfl : i = N := by omega
      have HNM : Hid (i < 2305843009213693952) := Lib.hid (by omega)
      have hlti : ¬ (i : Int) < (i : Int) := by omega
      go_wp2_with (first | (go_at_call 260; refine (clone_row g cap i r l _ HN.out h0 hNm hrowW).mono ?_; rintro e w1 ⟨g1, cap1, rfl, hrow1, hb1⟩; obtain ⟨r1, hB1⟩ := hrow1.krow) | (go_at_call 261; refine (sortStable_any g1 cap1 i r1 l _ HN.out HNM.out hB1).mono ?_; rintro e w2 ⟨rfl, hB2, ho2⟩))
      go_ret2
      have hge := hrow1.base
      have hge2 := hb.size
      exact ⟨g1, cap1, r1, rfl, by omega, hB2, (hb.trans (hb1.mono hb.size)).trans (ho2.below _ (by have := hb1.size; omega) (by simp; omega))⟩

end Go.Proofs.YtoalboilghgalaaGreatDoor

/- table.Keys. -/
namespace Go.Proofs.YtoalboilghgalaaGreatDoor
open Go.RowKit
open Go.Proofs.Dc (V Ds Ky)
attribute [local go_sem] run_store_float

attribute [local go_sem] Oper.semAt_some
def pC (p : Ky × Ds) : Array Value := (pCells p).toArray
theorem pCells_length (p : Ky × Ds) : (pCells p).length = 20 := rfl
theorem pAll_get : ∀ (L : List (Ky × Ds)) (i j : Nat) (p : Ky × Ds), L[i]? = some p → j < 20 → (pAll L)[i * 20 + j]? = (pCells p)[j]?
  | [], i, j, p, h, _ => by simp at h
  | q :: r, 0, j, p, h, hj => by
    obtain rfl : q = p := by simpa using h
    rw [pAll, Nat.zero_mul, Nat.zero_add, List.getElem?_append_left (by rw [pCells_length]; exact hj)]
  | q :: r, i + 1, j, p, h, hj => by
    have h2 : r[i]? = some p := by simpa using h
    rw [pAll, List.getElem?_append_right (by rw [pCells_length]; omega), pCells_length, show (i + 1) * 20 + j - 20 = i * 20 + j by omega]
    exact pAll_get r i j p h2 hj
theorem RowAt.part {W : World} {base g n cap : Nat} {L : List (Ky × Ds)} (h : RowAt W base 45 20 g n cap (pAll L)) (i : Nat) (p : Ky × Ds) (hi : L[i]? = some p) : W.rangeAt g (i * 20) (pCells p) := fun j v hv => by
  have hj : j < 20 := (List.getElem?_eq_some_iff.1 hv).1
  obtain ⟨cur, h1, _, _, _, h5⟩ := h.lies
  have := pAll_get L i j p hi hj
  rw [← h5, hv] at this
  have h6 := (List.getElem?_eq_some_iff.1 this).1
  rw [h1.cell]
  rw [List.getElem?_take] at this
  split at this
  · rw [← this]; simp
  · cases this
theorem zero45 (w : World) : (zeroValue 45).run Tryz.prog w = .ok (.agg (pC (⟨⟨#[]⟩, 0⟩, Dc.d0))) w := by kernel_rfl
theorem pC_one (p : Ky × Ds) : (pC p).all (·.oneCell') = true := by simp [pC, pCells, kArr, dArr, Value.oneCell']
theorem Tryz.size45' : (Tryz.prog.info? 45).map (·.size) = some 20 := by kernel_rfl
theorem range_pk {W : World} {b : Nat} {p : Ky × Ds} (h : Blk W b (pC p) 45) : W.rangeAt b 0 [.string p.1.str, .int .i64 p.1.sym] := fun j v hv => by
  have hj : j < 2 := (List.getElem?_eq_some_iff.1 hv).1
  rw [h.cell, Nat.zero_add]
  match j, hj with
  | 0, _ => rw [← hv]; rfl
  | 1, _ => rw [← hv]; rfl
theorem TabSt.len {base : Nat} {W : World} {tb mb : Nat} {ev : Value} {L : List (Ky × Ds)} {q : Int} (h : TabSt base W tb ev mb L q) (hq : q ≤ 1000000) : L.length ≤ 1000000 := by
  obtain ⟨E, M, last, hT, rfl, hl⟩ := h
  have h1 := hT.ok.len_le
  have h2 := live_len E
  unfold liveP
  rw [List.length_map]; omega
theorem keys_walk (base tb mb : Nat) (ev : Value) (L : List (Ky × Ds)) (q : Int) (hq : q ≤ 1000000) (w : World) (hT : TabSt base w tb ev mb L q) (hTT : Tabs w) (hk : ∀ p ∈ L, kgood p.1 = true) (hlen : L.length ≤ 1000000) : Calls Tryz.prog 252 #[.pointer (some ⟨tb, 0, none⟩)] w fun e w' => ∃ v, e = .returned v ∧ KeysAt w' w.heap.size v (Srt.stable ltK (L.map (·.1))) ∧ Below w.heap.size w w' := by
  obtain ⟨i0, hi0, hz0, hz1, hz2⟩ := info_parts Tryz.info40
  have HK := Lib.hid hk
  obtain ⟨n, hn⟩ : ∃ n, L.length = n := ⟨_, rfl⟩
  have HP := Lib.hid (props_any base tb mb ev L q w hT hq)
  have HTT := Lib.hid hTT
  rw [hn] at hlen HP
  have HN := Lib.hid hn
  clear hk hn hTT hT
  go_enter Tryz.func252, Tryz.ntmps252
  go_wp2_with (go_at_call 127; refine HP.out.mono ?_; rintro e w1 ⟨gp, cap, rfl, hr, hb1⟩)
  have HR := Lib.hid hr
  clear hr
  go_loopg [3, 9] n (fun fu s3 s9 wr => ∃ (i : Nat) (v : Value), v = s3 ∧ s9 = .int .i64 i ∧ i + fu = n ∧ wr.ownsRow w1.heap.size 40 2 v i (kAll ((L.take i).map (·.1))) ∧ Below w1.heap.size w1 wr ∧ (i = 0 → v = .slice none 0 0))
  case atStart => exact ⟨0, _, rfl, rfl, by omega, ⟨rfl, .inl ⟨rfl, rfl⟩⟩, Below.refl _ _, fun _ => rfl⟩
  case round =>
    obtain ⟨i, v, rfl, rfl, hi, hown, hbW, hv0⟩ := hrel
    by_cases hlt : i < n
    · obtain ⟨p, hp⟩ : ∃ p, L[i]? = some p := ⟨_, List.getElem?_eq_getElem (by rw [HN.out]; exact hlt)⟩
      have HX := Lib.hid hp
      have HO := Lib.hid hown
      obtain ⟨fu, rfl⟩ : ∃ fu, gk = fu + 1 := ⟨gk - 1, by omega⟩
      obtain ⟨i2, hi2⟩ : ∃ i2, i + 1 = i2 := ⟨_, rfl⟩
      have e1 : (i : Int) + 1 = (i2 : Int) := by omega
      have e2 := wrap_nat i2 (by omega)
      have e3 : (0 : Int) ≤ (i : Int) := by omega
      have e4 : (i : Int) < (n : Int) := by omega
      have hi3 : i2 + fu = n := by omega
      have HI3 := Lib.hid (And.intro hi3 hi2)
      have hin : i + 1 ≤ 1000000 := by omega
      clear hp hown hi2 hi3 hi
      go_wp2_with (first | ((with_reducible show wpList _ _ _ (⟨_, .load 45 (.tmp 11), _, _, _, _⟩ :: _) _ _); refine wpList_load_mid rfl 45 _ rfl gp (i * 20) rfl (pCells p) _ ((HR.out.next hbW).part i p HX.out) Tryz.underlying45 rfl Tryz.size45' ?_) | ((with_reducible show wpList _ _ _ (⟨_, .alloc 45, _, _, _, _⟩ :: _) _ _); refine wpList_alloc_blk rfl 45 rfl (pC (⟨⟨#[]⟩, 0⟩, Dc.d0)) zero45 ?_; intro wa hA hLa hsa) | ((with_reducible show wpList _ _ _ (⟨_, .store 45 _ _, _, _, _, _⟩ :: _) _ _); refine wpList_store_blk rfl 45 _ _ rfl _ (pC p) _ 45 rfl rfl hA Tryz.size45' rfl (pC_one _) ?_; intro wb hA2 hOb; have hAB := hLa.trans (hOb.below _ hLa.size (by simp))) | ((with_reducible show wpList _ _ _ (⟨_, .load 40 (.tmp 14), _, _, _, _⟩ :: _) _ _); refine wpList_load_mid rfl 40 _ rfl wr.heap.size 0 rfl [.string p.1.str, .int .i64 p.1.sym] _ (range_pk hA2) Tryz.underlying40 rfl Tryz.size40 ?_) | ((with_reducible show wpList _ _ _ (⟨some 17, .call _, _, _, _, _⟩ :: _) _ _); refine Hid.out ?_))
      refine Lib.hid ?_
      obtain ⟨X, hX⟩ : ∃ X, X = wb.alloc (.cells #[.string p.1.str, .int .i64 p.1.sym] 40) := ⟨_, rfl⟩
      have hXb : Below wr.heap.size wr X := by rw [hX]; exact hAB.trans ((one wb _).mono hAB.size)
      have hXn : ∀ j u, [Value.string p.1.str, .int .i64 p.1.sym][j]? = some u → X.cell? ((⟨wb.heap.size, 0, none⟩ : Addr).add j) = some u := by
        rw [hX]; exact World.news_of_block (cs := #[.string p.1.str, .int .i64 p.1.sym]) (t := 40) (fr := (0, 0)) (heap_alloc_new wb _)
      rw [← hX]
      have hs1 := hbW.size
      have hs2 := hXb.size
      refine wpList_append_own_at _ rfl (.tmp 13) (.tmp 16) 55 rfl w1.heap.size 40 i0 _ 2 24 Tryz.underlying55 hi0 hz0 hz1 hz2 rfl (by decide) v i (kAll ((L.take i).map (·.1))) rfl (ownsRow_only HO.out (Only.of_below (S := []) hXb) (by simp)) ⟨wb.heap.size, 0, none⟩ 1 1 [.string p.1.str, .int .i64 p.1.sym] rfl rfl hXn (by simp [Value.oneCell']) (by unfold maxLen; omega) (by omega) (by omega) ?_
      intro v' w2 hown2 hgr _ _
      have hbe : ∀ k, v.ownBlock = some k → w1.heap.size ≤ k := fun k hk => by
        rcases HO.out.2 with ⟨h, _⟩ | ⟨g, c, cur, h, hg, _⟩
        · rw [h] at hk; cases hk
        · rw [h] at hk; simp only [Value.ownBlock, Option.some.injEq] at hk; omega
      have hkeys : kAll ((L.take i).map (·.1)) ++ [Value.string p.1.str, .int .i64 p.1.sym] = kAll ((L.take (i + 1)).map (·.1)) := by
        rw [List.take_add_one, HX.out, List.map_append, kAll_app]
        rfl
      rw [hkeys] at hown2
      have hfin := (hbW.trans (hXb.mono hs1)).grown hgr (by omega) hbe
      have HOWN := Lib.hid hown2
      clear hown2 hkeys hX hXn
      go_wp2
      go_roundg fu
      case measure => omega
      case rel =>
        have e := HI3.out.2
        subst e
        exact ⟨i + 1, _, rfl, by go_num, HI3.out.1, HOWN.out, hfin, fun h => by omega⟩
    · obtain rfl : i = n := by omega
      have hwT := ((HTT.out.below hb1).below (hbW))
      have hlti : ¬ (i : Int) < (i : Int) := by omega
      have htk : L.take i = L := by rw [← HN.out]; exact List.take_length
      rw [htk] at hown
      have hbt := hb1.trans (hbW.mono hb1.size)
      have hs1 := hb1.size
      have hs2 := hbW.size
      have HOWN := Lib.hid hown
      clear hown htk
      by_cases hz : i = 0
      · obtain rfl := hv0 hz
        subst hz
        have hLn : L = [] := List.eq_nil_of_length_eq_zero HN.out
        subst hLn
        go_wp2_with (go_at_call 256; refine (order_nil _).mono ?_; rintro e w2 ⟨rfl, rfl⟩)
        go_ret
        exact ⟨_, rfl, .inl ⟨rfl, rfl⟩, hbt⟩
      · obtain ⟨g, cp, rfl, hg, _⟩ := World.ownsRow.form HOWN.out (by omega)
        obtain ⟨r, hB⟩ := (RowAt.of HOWN.out).krow
        have hlm : (L.map (·.1)).length = i := by rw [List.length_map]; exact HN.out
        have hkm : ∀ k ∈ L.map (·.1), kgood k = true := fun k hk => by
          obtain ⟨p, hp, rfl⟩ := List.mem_map.1 hk
          exact HK.out p hp
        have HLM := Lib.hid hlm
        have HKM := Lib.hid hkm
        clear hlm hkm
        go_wp2_with (go_at_call 256; refine (order_row g cp i r (L.map (·.1)) _ HLM.out (by omega) hlen hwT HKM.out hB).mono ?_; rintro e w2 ⟨g2, cp2, r2, rfl, hg2, hB2, hb2⟩)
        go_ret
        have hsl : (Srt.stable ltK (L.map (·.1))).length = i := by rw [(Srt.stable_perm _).length_eq]; exact HLM.out
        exact ⟨_, rfl, .inr ⟨g2, cp2, r2, by rw [hsl]; rfl, by omega, hB2⟩, hbt.trans (hb2.mono (by omega))⟩

end Go.Proofs.YtoalboilghgalaaGreatDoor

/- The keys of an object, as the heap tells them. -/
namespace Go.Proofs.YtoalboilghgalaaGreatDoor
open Go.RowKit
open Go.Proofs.Dc (V Ds Ky)
attribute [local go_sem] run_store_float

attribute [local go_sem] Oper.semAt_some
/-- the keys of a list of properties, in Order's order -/
def sortK (L : List (Ky × Ds)) : List Ky := Srt.stable ltK (L.map (·.1))
def LGood (L : List (Ky × Ds)) : Prop := ∀ p ∈ L, kgood p.1 = true
theorem KeysAt.weak {W : World} {b b' : Nat} {v : Value} {l : List Ky} (h : KeysAt W b v l) (hb : b' ≤ b) : KeysAt W b' v l := by
  rcases h with h | ⟨g, c, r, h1, h2, h3⟩
  · exact .inl h
  · exact .inr ⟨g, c, r, h1, Nat.le_trans hb h2, h3⟩
theorem KeysAt.keeps {n0 : Nat} {W W' : World} {b : Nat} {v : Value} {l : List Ky} (h : KeysAt W b v l) (hk : Keeps n0 W W') : KeysAt W' b v l := by
  rcases h with h | ⟨g, c, r, h1, h2, h3⟩
  · exact .inl h
  · exact .inr ⟨g, c, r, h1, h2, h3.keeps hk rfl⟩
/-- the properties of an object in a row of their own, or nil -/
def PropsAt (W : World) (v : Value) (L : List (Ky × Ds)) : Prop := (L = [] ∧ v = .slice none 0 0) ∨ ∃ base g cap, v = .slice (some ⟨g, 0, none⟩) L.length cap ∧ RowAt W base 45 20 g L.length cap (pAll L)
theorem pkeys_any {n0 : Nat} {w : World} {hb : Nat} {ov : Value} {ob : Nat} {tp : Option Addr} {cap fuel deep : Int} {kd : Kd} {ext : Bool} {L : List (Ky × Ds)} (s : StX n0 w hb ov ob tp cap fuel deep kd ext L) (hg : LGood L) : Calls Tryz.prog 243 #[.pointer (some ⟨ob, 9, none⟩)] w fun e w' => ∃ v, e = .returned v ∧ KeysAt w' w.heap.size v (sortK L) ∧ Below w.heap.size w w' := by
  have hco := s.o.cellO
  have HG := Lib.hid hg
  have hq0 : kd.b - fuel - deep ≤ 1000000 := by have := s.bd; omega
  have HQ := Lib.hid hq0
  clear hq0
  rcases s.tab with ⟨rfl, rfl, _⟩ | ⟨tb, mb, ev, rfl, h1, h2, ht, hLn⟩
  · go_enter Tryz.func243, Tryz.ntmps243
    go_wp2
    go_ret
    exact ⟨_, rfl, .inl ⟨rfl, rfl⟩, Below.refl _ _⟩
  · have hTT := s.tabs
    go_enter Tryz.func243, Tryz.ntmps243
    go_wp2_with (go_at_call 252; refine (keys_walk n0 tb mb ev L _ HQ.out _ ht hTT HG.out (ht.len HQ.out)).mono ?_; rintro e w1 ⟨v, rfl, hk, hb⟩)
    go_ret
    exact ⟨v, rfl, hk, hb⟩

theorem pall_any {n0 : Nat} {w : World} {hb : Nat} {ov : Value} {ob : Nat} {tp : Option Addr} {cap fuel deep : Int} {kd : Kd} {ext : Bool} {L : List (Ky × Ds)} (s : StX n0 w hb ov ob tp cap fuel deep kd ext L) : Calls Tryz.prog 85 #[.pointer (some ⟨ob, 9, none⟩)] w fun e w' => ∃ v, e = .returned v ∧ PropsAt w' v L ∧ Below w.heap.size w w' := by
  have hco := s.o.cellO
  have hq0 : kd.b - fuel - deep ≤ 1000000 := by have := s.bd; omega
  have HQ := Lib.hid hq0
  clear hq0
  rcases s.tab with ⟨rfl, rfl, _⟩ | ⟨tb, mb, ev, rfl, h1, h2, ht, hLn⟩
  · go_enter Tryz.func85, Tryz.ntmps85
    go_wp2
    go_ret
    exact ⟨_, rfl, .inl ⟨rfl, rfl⟩, Below.refl _ _⟩
  · go_enter Tryz.func85, Tryz.ntmps85
    go_wp2_with (go_at_call 127; refine (props_any n0 tb mb ev L _ _ ht HQ.out).mono ?_; rintro e w1 ⟨g, cp, rfl, hr, hb⟩)
    go_ret
    exact ⟨_, rfl, .inr ⟨_, g, cp, rfl, hr⟩, hb⟩

theorem hkeys_any {n0 : Nat} {w : World} {hb : Nat} {ov : Value} {ob : Nat} {tp : Option Addr} {cap fuel deep : Int} {kd : Kd} {ext : Bool} {L : List (Ky × Ds)} (s : StX n0 w hb ov ob tp cap fuel deep kd ext L) (hg : LGood L) : Calls Tryz.prog 228 #[.pointer (some ⟨hb, 0, none⟩), .int .i64 1] w fun e w' => ∃ v, e = .returned v ∧ KeysAt w' w.heap.size v (sortK L) ∧ Below w.heap.size w w' := by
  have HG := Lib.hid hg
  go_enter Tryz.func228, Tryz.ntmps228
  go_wp2_with (first | (go_at_call 84; refine (at_any s).mono ?_; rintro e wX ⟨rfl, rfl⟩) | (go_at_call 243; refine (pkeys_any s HG.out).mono ?_; rintro e w1 ⟨v, rfl, hk, hb⟩))
  go_ret
  exact ⟨v, rfl, hk, hb⟩

end Go.Proofs.YtoalboilghgalaaGreatDoor
