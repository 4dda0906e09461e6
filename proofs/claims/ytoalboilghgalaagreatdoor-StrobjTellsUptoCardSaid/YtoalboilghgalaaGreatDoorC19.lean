/- Lemmas for this claim, in parts: Wrong1, Wrong2, Wrong3, Within, Slow, Cmp. -/
import Derived.Test.YtoalboilghgalaaGreatDoorC17
import Derived.Test.YtoalboilghgalaaGreatDoorC01
import Derived.Deep.AppendLies
import Derived.Deep.RegionHeld3
import Derived.Test.YtoalboilghgalaaGreatDoorC18
import Derived.Test.YtoalboilghgalaaGreatDoorC12
import Derived.Test.YtoalboilghgalaaGreatDoorC07
set_option maxRecDepth 100000
set_option maxHeartbeats 4000000
set_option linter.unusedVariables false
set_option linter.unusedSimpArgs false
/- The heap: wrong, of a call without key and descriptor, and with a key. -/
namespace Go.Proofs.YtoalboilghgalaaGreatDoor
open Go.RowKit
open Go.Proofs.Dc (V Ds Ky)
attribute [local go_sem] run_store_float

def aArr (kp dp : Option Addr) (v : Value) : Array Value := #[.pointer kp, .pointer dp, v]
theorem Blk.cellA {W : World} {b : Nat} {kp dp : Option Addr} {v : Value} (h : Blk W b (aArr kp dp v) 118) : ∀ j, W.cell? ⟨b, j, none⟩ = #[.pointer kp, .pointer dp, v][j]? := h.cell

theorem wrong_none {n0 : Nat} {w : World} {hb : Nat} {ov : Value} {ob : Nat} {tp : Option Addr} {cap fuel deep : Int} {kd : Kd} {ext : Bool} {L : List (Ky × Ds)} (s : StX n0 w hb ov ob tp cap fuel deep kd ext L) : Calls Tryz.prog 55 #[.pointer (some ⟨hb, 0, none⟩), .int .i64 1, .agg #[.pointer none, .pointer none, .slice none 0 0]] w fun e w' => e = .returned (.int .i64 0) ∧ Below w.heap.size w w' := by
  go_enter Tryz.func55, Tryz.ntmps55
  go_wp2_with (first | ((with_reducible show wpList _ _ _ (⟨_, .box 118 _, _, _, _, _⟩ :: _) _ _); refine wpList_box_blk rfl 118 _ rfl (aArr none none (.slice none 0 0)) rfl ?_; intro w0 hA hL hs; have hcA := hA.cellA; have s0 := s.below hL) | (go_at_call 83; refine (has_one s0).mono ?_; rintro e w' ⟨rfl, rfl⟩))
  refine wp_loop_rounds 1 ?_
  rw [rounds_succ]
  go_wp2
  refine wp_loop_rounds 1 ?_
  rw [rounds_succ]
  go_wp2
  go_ret
  exact ⟨rfl, hL⟩

theorem wrong_key {n0 : Nat} {w : World} {hb : Nat} {ov : Value} {ob : Nat} {tp : Option Addr} {cap fuel deep : Int} {kd : Kd} {ext : Bool} {L : List (Ky × Ds)} (s : StX n0 w hb ov ob tp cap fuel deep kd ext L) (k : Ky) (kb : Nat) (hK : Blk w kb (kArr k) 40) : Calls Tryz.prog 55 #[.pointer (some ⟨hb, 0, none⟩), .int .i64 1, .agg #[.pointer (some ⟨kb, 0, none⟩), .pointer none, .slice none 0 0]] w fun e w' => e = .returned (.int .i64 (if kgood k then 0 else 5)) ∧ Below w.heap.size w w' := by
  have cK := fun W (h : Below w.heap.size w W) => keycheck_any k W (s.tabs.below h)
  cases hg : kgood k
  all_goals
    simp only [hg, Bool.false_eq_true, if_false, if_true] at cK ⊢
    clear hg
    go_enter Tryz.func55, Tryz.ntmps55
    go_wp2_with (first | ((with_reducible show wpList _ _ _ (⟨_, .box 118 _, _, _, _, _⟩ :: _) _ _); refine wpList_box_blk rfl 118 _ rfl (aArr (some ⟨kb, 0, none⟩) none (.slice none 0 0)) rfl ?_; intro w0 hA hL hs; have hcA := hA.cellA; have s0 := s.below hL; have hK0 := hK.next hL; have hcK := hK0.cellK; have hLK := hL) | (go_at_call 83; refine (has_one s0).mono ?_; rintro e w' ⟨rfl, rfl⟩) | (go_at_call 13; refine (cK _ hLK).mono ?_; rintro e w1 ⟨rfl, hb1⟩; have hA1 := hA.next hb1; have hcA1 := hA1.cellA; have hL1 := more hL hb1))
  · go_ret
    exact ⟨rfl, hL1⟩
  · refine wp_loop_rounds 1 ?_
    rw [rounds_succ]
    go_wp2
    refine wp_loop_rounds 1 ?_
    rw [rounds_succ]
    go_wp2
    go_ret
    exact ⟨rfl, hL1⟩


end Go.Proofs.YtoalboilghgalaaGreatDoor

/- The heap: wrong, of a call with a key and a descriptor. -/
namespace Go.Proofs.YtoalboilghgalaaGreatDoor
open Go.RowKit
open Go.Proofs.Dc (V Ds Ky)
attribute [local go_sem] run_store_float

theorem row_block {W : World} {base : Nat} {e : TypeId} {size n : Nat} {xs : List Value} {g c : Nat} (h : W.ownsRow base e size (.slice (some ⟨g, 0, none⟩) n c) n xs) : ∃ C, Blk W g C e ∧ C.toList.take (n * size) = xs := by
  obtain ⟨_, h2⟩ := h
  rcases h2 with ⟨h2, _⟩ | ⟨g', cap, cur, hv, hg, hh, hn, hc, hs, ht⟩
  · cases h2
  · simp only [Value.slice.injEq, Option.some.injEq, Addr.mk.injEq] at hv
    obtain ⟨⟨rfl, _⟩, _⟩ := hv
    exact ⟨_, hh, by simpa using ht⟩
theorem range_val {W : World} {b : Nat} {d : Ds} (h : Blk W b (dArr d) 43) : W.rangeAt b 0 (vArr d.val).toList := fun j v hv => by
  rw [h.cell]; have : j < 5 := (List.getElem?_eq_some_iff.1 hv).1
  obtain rfl | rfl | rfl | rfl | rfl : j = 0 ∨ j = 1 ∨ j = 2 ∨ j = 3 ∨ j = 4 := by omega
  all_goals exact hv
theorem range_get {W : World} {b : Nat} {d : Ds} (h : Blk W b (dArr d) 43) : W.rangeAt b 5 (vArr d.get).toList := fun j v hv => by
  rw [h.cell]; have : j < 5 := (List.getElem?_eq_some_iff.1 hv).1
  obtain rfl | rfl | rfl | rfl | rfl : j = 0 ∨ j = 1 ∨ j = 2 ∨ j = 3 ∨ j = 4 := by omega
  all_goals exact hv
theorem range_set {W : World} {b : Nat} {d : Ds} (h : Blk W b (dArr d) 43) : W.rangeAt b 10 (vArr d.set).toList := fun j v hv => by
  rw [h.cell]; have : j < 5 := (List.getElem?_eq_some_iff.1 hv).1
  obtain rfl | rfl | rfl | rfl | rfl : j = 0 ∨ j = 1 ∨ j = 2 ∨ j = 3 ∨ j = 4 := by omega
  all_goals exact hv
theorem Tryz.info36 : (Tryz.prog.info? 36).map (fun i => (i.zero, i.size, i.bytes)) = some (some (.agg #[.int .i64 0, .bool false, .float .f64 0, .string ⟨#[]⟩, .int .i64 0]), 5, 48) := by kernel_rfl
/-- the three values of a descriptor, in a row -/
def vals3 (d : Ds) : List Value := [.int .i64 d.val.kind, .bool d.val.bool, .float .f64 d.val.num, .string d.val.str, .int .i64 d.val.id, .int .i64 d.get.kind, .bool d.get.bool, .float .f64 d.get.num, .string d.get.str, .int .i64 d.get.id, .int .i64 d.set.kind, .bool d.set.bool, .float .f64 d.set.num, .string d.set.str, .int .i64 d.set.id]
theorem row_at {W : World} {g : Nat} {C : Array Value} {xs : List Value} {t : TypeId} {n : Nat} (h : Blk W g C t) (ht : C.toList.take n = xs) (j : Nat) (hj : j < n) : W.cell? ⟨g, j, none⟩ = xs[j]? := by
  rw [h.cell, ← ht, List.getElem?_take, if_pos hj]; simp
theorem zero36 (w : World) : (zeroValue 36).run Tryz.prog w = .ok (.agg (vArr Dc.v0)) w := by kernel_rfl
/-- what the loop reads -/
structure WrSt (n0 : Nat) (w W : World) (hb : Nat) (ov : Value) (ob : Nat) (tp : Option Addr) (cap fuel deep : Int) (kd : Kd) (ext : Bool) (L : List (Ky × Ds)) (d : Ds) (kb db gg : Nat) (cp : Nat) : Prop where
  a : Blk W w.heap.size (aArr (some ⟨kb, 0, none⟩) (some ⟨db, 0, none⟩) (.slice (some ⟨gg, 0, none⟩) 3 cp)) 118
  dd : Blk W db (dArr d) 43
  row : ∃ C, Blk W gg C 36 ∧ C.toList.take 15 = vals3 d
  s : StX n0 W hb ov ob tp cap fuel deep kd ext L
  b : Below w.heap.size w W
section
variable {n0 : Nat} {w W W' : World} {hb : Nat} {ov : Value} {ob : Nat} {tp : Option Addr} {cap fuel deep : Int} {kd : Kd} {ext : Bool} {L : List (Ky × Ds)} {d : Ds} {kb db gg : Nat} {cp : Nat}
theorem WrSt.next (h : WrSt n0 w W hb ov ob tp cap fuel deep kd ext L d kb db gg cp) (hq : Below W.heap.size W W') : WrSt n0 w W' hb ov ob tp cap fuel deep kd ext L d kb db gg cp := by
  obtain ⟨h1, h2, ⟨C, h3, h4⟩, h5, h6⟩ := h
  exact ⟨h1.next hq, h2.next hq, ⟨C, h3.next hq, h4⟩, h5.below hq, more h6 hq⟩
theorem WrSt.only (h : WrSt n0 w W hb ov ob tp cap fuel deep kd ext L d kb db gg cp) {b : Nat} (ho : Only [b] W W') (hn : W.heap.size ≤ b) : WrSt n0 w W' hb ov ob tp cap fuel deep kd ext L d kb db gg cp :=
  h.next (ho.below _ (Nat.le_refl _) (by simpa using hn))
theorem WrSt.val (h : WrSt n0 w W hb ov ob tp cap fuel deep kd ext L d kb db gg cp) : ∀ j, j < (vArr d.val).size → W.cell? ⟨gg, 0 + j, none⟩ = (vArr d.val)[j]? := by
  intro j hj
  obtain ⟨C, h3, h4⟩ := h.row
  have hj : j < 5 := hj
  rw [row_at h3 h4 _ (by omega)]
  obtain rfl | rfl | rfl | rfl | rfl : j = 0 ∨ j = 1 ∨ j = 2 ∨ j = 3 ∨ j = 4 := by omega
  all_goals rfl
theorem WrSt.get (h : WrSt n0 w W hb ov ob tp cap fuel deep kd ext L d kb db gg cp) : ∀ j, j < (vArr d.get).size → W.cell? ⟨gg, 5 + j, none⟩ = (vArr d.get)[j]? := by
  intro j hj
  obtain ⟨C, h3, h4⟩ := h.row
  have hj : j < 5 := hj
  rw [row_at h3 h4 _ (by omega)]
  obtain rfl | rfl | rfl | rfl | rfl : j = 0 ∨ j = 1 ∨ j = 2 ∨ j = 3 ∨ j = 4 := by omega
  all_goals rfl
theorem WrSt.set (h : WrSt n0 w W hb ov ob tp cap fuel deep kd ext L d kb db gg cp) : ∀ j, j < (vArr d.set).size → W.cell? ⟨gg, 10 + j, none⟩ = (vArr d.set)[j]? := by
  intro j hj
  obtain ⟨C, h3, h4⟩ := h.row
  have hj : j < 5 := hj
  rw [row_at h3 h4 _ (by omega)]
  obtain rfl | rfl | rfl | rfl | rfl : j = 0 ∨ j = 1 ∨ j = 2 ∨ j = 3 ∨ j = 4 := by omega
  all_goals rfl
end
/-- what wrong says of a well-formed descriptor -/
def wrongN (d : Ds) : Int := if lostV d.val || lostV d.get || lostV d.set then 4 else if d.get.kind ≠ 7 ∧ d.set.kind ≠ 7 then 0 else 8

theorem Tryz.len36 : (Tryz.prog.info? 36).map (·.size) = some 5 := Tryz.size36

theorem wrong_lost1 {n0 : Nat} {w : World} {hb : Nat} {ov : Value} {ob : Nat} {tp : Option Addr} {cap fuel deep : Int} {kd : Kd} {ext : Bool} {L : List (Ky × Ds)} (s : StX n0 w hb ov ob tp cap fuel deep kd ext L) (hk : KdOk kd) (k : Ky) (d : Ds) (hd : Nums d) (kb db : Nat) (hK : Blk w kb (kArr k) 40) (hD : Blk w db (dArr d) 43) (hg : kgood k = true) (hkd : Dc.kindB uvalid d = true) (hl : lostV d.val = true) : Calls Tryz.prog 55 #[.pointer (some ⟨hb, 0, none⟩), .int .i64 1, .agg #[.pointer (some ⟨kb, 0, none⟩), .pointer (some ⟨db, 0, none⟩), .slice none 0 0]] w fun e w' => e = .returned (.int .i64 4) ∧ Below w.heap.size w w' := by
  have cK := fun W (h : Below w.heap.size w W) => keycheck_any k W (s.tabs.below h)
  have cD := fun W (h : Below w.heap.size w W) => dcheck_any d W (s.tabs.below h) hd
  simp only [hg, hkd, if_true] at cK cD
  obtain ⟨i0, hi0, hz0, hz1, hz2⟩ := info_parts Tryz.info36
  have cval := fun {W : World} (s : StX n0 W hb ov ob tp cap fuel deep kd ext L) => lost_any s d.val
  have cget := fun {W : World} (s : StX n0 W hb ov ob tp cap fuel deep kd ext L) => lost_any s d.get
  have cset := fun {W : World} (s : StX n0 W hb ov ob tp cap fuel deep kd ext L) => lost_any s d.set
  simp only [hl] at cval
  clear hg hkd hl cget cset
  go_enter Tryz.func55, Tryz.ntmps55
  go_wp2_with (first | ((with_reducible show wpList _ _ _ (⟨_, .box 118 _, _, _, _, _⟩ :: _) _ _); refine wpList_box_blk rfl 118 _ rfl (aArr (some ⟨kb, 0, none⟩) (some ⟨db, 0, none⟩) (.slice none 0 0)) rfl ?_; intro w0 hA hL hs; have hcA := hA.cellA; have s0 := s.below hL; have hK0 := hK.next hL; have hcK := hK0.cellK; have hD0 := hD.next hL; have hLK := hL) | (go_at_call 83; refine (has_one s0).mono ?_; rintro e w' ⟨rfl, rfl⟩) | (go_at_call 13; refine (cK _ hLK).mono ?_; rintro e w1 ⟨rfl, hb1⟩; have hA1 := hA.next hb1; have hcA1 := hA1.cellA; clear hcA hcK; have hD1 := hD0.next hb1; have hL1 := more hL hb1) | ((with_reducible show wpList _ _ _ (⟨_, .load 43 _, _, _, _, _⟩ :: _) _ _); refine wpList_load_blkW (by rfl) 43 _ rfl db rfl hD1 Tryz.row43 Tryz.size43 ?_) | (go_at_call 104; refine (cD _ hL1).mono ?_; rintro e w2 ⟨rfl, hb2⟩; have hA2 := hA1.next hb2; have hcA2 := hA2.cellA; clear hcA1; have hD2 := hD1.next hb2; have hL2 := more hL1 hb2))
  refine wp_loop_rounds 1 ?_
  rw [rounds_succ]
  go_wp2
  refine Ord.region (fun W => (W.cell? ⟨w.heap.size, 1, none⟩ = some (.pointer (some ⟨db, 0, none⟩)) ∧ W.cell? ⟨w.heap.size, 2, none⟩ = some (.slice none 0 0)) ∧ Blk W db (dArr d) 43) [] (by kernel_rfl) ⟨⟨hcA2 1, hcA2 2⟩, hD2⟩ ?_
  intro hS
  refine Ord.tp 0 53 rfl rfl ?_
  refine Ord.tp 1 54 rfl rfl ?_
  refine Ord.tp 2 55 rfl rfl ?_
  refine Ord.tp 3 56 rfl rfl ?_
  refine Ord.tp 4 57 rfl rfl ?_
  refine Ord.tp 5 58 rfl rfl ?_
  refine Ord.tk 6 59 rfl rfl (yieldsIf_load_mid (by rfl) 36 _ rfl db 0 rfl [.int .i64 d.val.kind, .bool d.val.bool, .float .f64 d.val.num, .string d.val.str, .int .i64 d.val.id] _ (fun W hSW => range_val hSW.2) Tryz.underlying36 rfl Tryz.len36) ?_
  refine Ord.tp 7 60 rfl rfl ?_
  refine Ord.tp 8 61 rfl rfl ?_
  refine Ord.tp 9 62 rfl rfl ?_
  refine Ord.tp 10 63 rfl rfl ?_
  refine Ord.tk 11 64 rfl rfl (yieldsIf_load_mid (by rfl) 36 _ rfl db 5 rfl [.int .i64 d.get.kind, .bool d.get.bool, .float .f64 d.get.num, .string d.get.str, .int .i64 d.get.id] _ (fun W hSW => range_get hSW.2) Tryz.underlying36 rfl Tryz.len36) ?_
  refine Ord.tp 12 65 rfl rfl ?_
  refine Ord.tp 13 66 rfl rfl ?_
  refine Ord.tp 14 67 rfl rfl ?_
  refine Ord.tp 15 68 rfl rfl ?_
  refine Ord.tk 16 69 rfl rfl (yieldsIf_load_mid (by rfl) 36 _ rfl db 10 rfl [.int .i64 d.set.kind, .bool d.set.bool, .float .f64 d.set.num, .string d.set.str, .int .i64 d.set.id] _ (fun W hSW => range_set hSW.2) Tryz.underlying36 rfl Tryz.len36) ?_
  refine Ord.step (i := 17) rfl (by kernel_rfl) (by rfl) ?_
  intro K HK
  go_simp
  refine HK.out _ _ ?_
  clear HK
  refine Ord.kp ?_ ?_
  · exact ⟨⟨(hA2.alloc _).cellA 1, (hA2.alloc _).cellA 2⟩, hD2.alloc _⟩
  clear hS
  intro hS
  try simp only [List.setIfInBounds_toArray, List.set_cons_zero, List.set_cons_succ]
  refine Ord.step (i := 18) rfl (by kernel_rfl) (by rfl) ?_
  intro K HK
  refine wp_append_lies _ (.tmp 54) (.tmp 70) 116 rfl 0 36 i0 _ 5 _ Tryz.underlying116 hi0 hz0 hz1 hz2 rfl (by decide) (.slice none 0 0) 0 [] rfl ⟨rfl, .inl ⟨rfl, rfl⟩⟩ ⟨w2.heap.size, 0, none⟩ 3 3 [.int .i64 d.val.kind, .bool d.val.bool, .float .f64 d.val.num, .string d.val.str, .int .i64 d.val.id, .int .i64 d.get.kind, .bool d.get.bool, .float .f64 d.get.num, .string d.get.str, .int .i64 d.get.id, .int .i64 d.set.kind, .bool d.set.bool, .float .f64 d.set.num, .string d.set.str, .int .i64 d.set.id] rfl rfl (World.news_of_block (cs := ([.int .i64 d.val.kind, .bool d.val.bool, .float .f64 d.val.num, .string d.val.str, .int .i64 d.val.id, .int .i64 d.get.kind, .bool d.get.bool, .float .f64 d.get.num, .string d.get.str, .int .i64 d.get.id, .int .i64 d.set.kind, .bool d.set.bool, .float .f64 d.set.num, .string d.set.str, .int .i64 d.set.id]).toArray) (t := 36) (fr := (0, 0)) (heap_alloc_new w2 _)) (by simp [Value.oneCell']) (by decide) (by decide) (by decide) (Nat.zero_le _) _ rfl ?_
  intro gg cp w4 hown4 hgrow4 hat4 hlt4
  have hb4 := below_grown0 hgrow4
  have hA4 := (show Blk (w2.alloc _).drew _ _ _ from hA2.alloc _).next hb4
  have hD4 := (show Blk (w2.alloc _).drew _ _ _ from hD2.alloc _).next hb4
  refine HK.out _ _ ?_
  clear HK
  refine Ord.kp ?_ ?_
  · exact ⟨⟨hA4.cellA 1, hA4.cellA 2⟩, hD4⟩
  clear hS
  intro hS
  try simp only [List.setIfInBounds_toArray, List.set_cons_zero, List.set_cons_succ]
  refine Ord.tp 19 72 rfl rfl ?_
  refine Ord.step (i := 20) rfl (by kernel_rfl) (by rfl) ?_
  intro K HK
  have hcA4 := hA4.cellA
  have hfA4 := hA4.frozen
  go_simp
  refine HK.out _ _ ?_
  clear HK
  refine ⟨Ord.np (by kernel_rfl), ?_⟩
  try simp only [List.setIfInBounds_toArray, List.set_cons_zero, List.set_cons_succ]
  refine Ord.done (by kernel_rfl) ?_ _
  have h5 := only_setCell (o := 2) (v := .slice (some ⟨gg, 0, none⟩) 3 cp) hA4
  have hW4 : Below w.heap.size w w4 := more hL2 (((Below.refl _ w2).alloc (Nat.le_refl _) _).drew.trans (hb4.mono (by simp)))
  have hgl : w2.heap.size ≤ gg := by rcases hat4 with h | h; cases h; simp at h; omega
  have hlt2 := hA2.lt
  have hdb2 := hD2.lt
  have h0 : WrSt n0 w (w4.setCell ⟨w.heap.size, 2, none⟩ (.slice (some ⟨gg, 0, none⟩) 3 cp)) hb ov ob tp cap fuel deep kd ext L d kb db gg cp := by
    have hbl : Below w.heap.size w (w4.setCell ⟨w.heap.size, 2, none⟩ (.slice (some ⟨gg, 0, none⟩) 3 cp)) := below_only hW4 h5.2 (by simp)
    refine ⟨h5.1, hD4.only h5.2 (by have := hD.lt; simp; omega), ?_, s.below hbl, hbl⟩
    obtain ⟨C, hC, hT⟩ := row_block hown4
    exact ⟨C, hC.only h5.2 (by simp; omega), hT⟩
  clear hD4 hA4 h5 hgrow4 hown4 hat4 hb4 hlt4 hS hA2 hcA2 hD2 hD1 hA1 hD0 hK0 hA
  generalize w4.setCell ⟨w.heap.size, 2, none⟩ (.slice (some ⟨gg, 0, none⟩) 3 cp) = w5 at h0 ⊢
  have hcA5 := h0.a.cellA
  go_wp2
  clear hcA5
  refine wp_loop_rounds 4 ?_
  rw [rounds_succ]
  go_wp2_with (first | ((with_reducible show wpList _ _ _ (⟨_, .load 36 (.tmp 78), _, _, _, _⟩ :: _) _ _); refine wpList_load_part rfl 36 _ rfl gg 0 rfl h0.val Tryz.row36 Tryz.size36 ?_) | ((with_reducible show wpList _ _ _ (⟨_, .alloc 36, _, _, _, _⟩ :: _) _ _); refine wpList_alloc_blk rfl 36 rfl (vArr Dc.v0) zero36 ?_; intro u1 hB1 hLu1 hsu1; have hv1 := h0.next hLu1) | ((with_reducible show wpList _ _ _ (⟨_, .store 36 _ _, _, _, _, _⟩ :: _) _ _); refine wpList_store_blk rfl 36 _ _ rfl _ (vArr d.val) _ 36 rfl rfl hB1 Tryz.size36 rfl (vCells_one d.val) ?_; intro x1 hX1 hO1; have hx1 := h0.next (below_only hLu1 hO1 (by simp))) | ((with_reducible show wpList _ _ _ (⟨_, .load 36 (.tmp 10), _, _, _, _⟩ :: _) _ _); refine wpList_load_blk rfl 36 _ rfl _ rfl hX1 Tryz.row36 Tryz.size36 ?_) | (go_at_call 92; refine (cval hx1.s).mono ?_; rintro e y1 ⟨rfl, hy1⟩; have h1 := hx1.next hy1))
  go_ret
  exact ⟨rfl, h1.b⟩

theorem wrong_lost2 {n0 : Nat} {w : World} {hb : Nat} {ov : Value} {ob : Nat} {tp : Option Addr} {cap fuel deep : Int} {kd : Kd} {ext : Bool} {L : List (Ky × Ds)} (s : StX n0 w hb ov ob tp cap fuel deep kd ext L) (hk : KdOk kd) (k : Ky) (d : Ds) (hd : Nums d) (kb db : Nat) (hK : Blk w kb (kArr k) 40) (hD : Blk w db (dArr d) 43) (hg : kgood k = true) (hkd : Dc.kindB uvalid d = true) (hv : lostV d.val = false) (hl : lostV d.get = true) : Calls Tryz.prog 55 #[.pointer (some ⟨hb, 0, none⟩), .int .i64 1, .agg #[.pointer (some ⟨kb, 0, none⟩), .pointer (some ⟨db, 0, none⟩), .slice none 0 0]] w fun e w' => e = .returned (.int .i64 4) ∧ Below w.heap.size w w' := by
  have cK := fun W (h : Below w.heap.size w W) => keycheck_any k W (s.tabs.below h)
  have cD := fun W (h : Below w.heap.size w W) => dcheck_any d W (s.tabs.below h) hd
  simp only [hg, hkd, if_true] at cK cD
  obtain ⟨i0, hi0, hz0, hz1, hz2⟩ := info_parts Tryz.info36
  have cval := fun {W : World} (s : StX n0 W hb ov ob tp cap fuel deep kd ext L) => lost_any s d.val
  have cget := fun {W : World} (s : StX n0 W hb ov ob tp cap fuel deep kd ext L) => lost_any s d.get
  have cset := fun {W : World} (s : StX n0 W hb ov ob tp cap fuel deep kd ext L) => lost_any s d.set
  simp only [hv] at cval
  simp only [hl] at cget
  clear hg hkd hl hv cset
  go_enter Tryz.func55, Tryz.ntmps55
  go_wp2_with (first | ((with_reducible show wpList _ _ _ (⟨_, .box 118 _, _, _, _, _⟩ :: _) _ _); refine wpList_box_blk rfl 118 _ rfl (aArr (some ⟨kb, 0, none⟩) (some ⟨db, 0, none⟩) (.slice none 0 0)) rfl ?_; intro w0 hA hL hs; have hcA := hA.cellA; have s0 := s.below hL; have hK0 := hK.next hL; have hcK := hK0.cellK; have hD0 := hD.next hL; have hLK := hL) | (go_at_call 83; refine (has_one s0).mono ?_; rintro e w' ⟨rfl, rfl⟩) | (go_at_call 13; refine (cK _ hLK).mono ?_; rintro e w1 ⟨rfl, hb1⟩; have hA1 := hA.next hb1; have hcA1 := hA1.cellA; clear hcA hcK; have hD1 := hD0.next hb1; have hL1 := more hL hb1) | ((with_reducible show wpList _ _ _ (⟨_, .load 43 _, _, _, _, _⟩ :: _) _ _); refine wpList_load_blkW (by rfl) 43 _ rfl db rfl hD1 Tryz.row43 Tryz.size43 ?_) | (go_at_call 104; refine (cD _ hL1).mono ?_; rintro e w2 ⟨rfl, hb2⟩; have hA2 := hA1.next hb2; have hcA2 := hA2.cellA; clear hcA1; have hD2 := hD1.next hb2; have hL2 := more hL1 hb2))
  refine wp_loop_rounds 1 ?_
  rw [rounds_succ]
  go_wp2
  refine Ord.region (fun W => (W.cell? ⟨w.heap.size, 1, none⟩ = some (.pointer (some ⟨db, 0, none⟩)) ∧ W.cell? ⟨w.heap.size, 2, none⟩ = some (.slice none 0 0)) ∧ Blk W db (dArr d) 43) [] (by kernel_rfl) ⟨⟨hcA2 1, hcA2 2⟩, hD2⟩ ?_
  intro hS
  refine Ord.tp 0 53 rfl rfl ?_
  refine Ord.tp 1 54 rfl rfl ?_
  refine Ord.tp 2 55 rfl rfl ?_
  refine Ord.tp 3 56 rfl rfl ?_
  refine Ord.tp 4 57 rfl rfl ?_
  refine Ord.tp 5 58 rfl rfl ?_
  refine Ord.tk 6 59 rfl rfl (yieldsIf_load_mid (by rfl) 36 _ rfl db 0 rfl [.int .i64 d.val.kind, .bool d.val.bool, .float .f64 d.val.num, .string d.val.str, .int .i64 d.val.id] _ (fun W hSW => range_val hSW.2) Tryz.underlying36 rfl Tryz.len36) ?_
  refine Ord.tp 7 60 rfl rfl ?_
  refine Ord.tp 8 61 rfl rfl ?_
  refine Ord.tp 9 62 rfl rfl ?_
  refine Ord.tp 10 63 rfl rfl ?_
  refine Ord.tk 11 64 rfl rfl (yieldsIf_load_mid (by rfl) 36 _ rfl db 5 rfl [.int .i64 d.get.kind, .bool d.get.bool, .float .f64 d.get.num, .string d.get.str, .int .i64 d.get.id] _ (fun W hSW => range_get hSW.2) Tryz.underlying36 rfl Tryz.len36) ?_
  refine Ord.tp 12 65 rfl rfl ?_
  refine Ord.tp 13 66 rfl rfl ?_
  refine Ord.tp 14 67 rfl rfl ?_
  refine Ord.tp 15 68 rfl rfl ?_
  refine Ord.tk 16 69 rfl rfl (yieldsIf_load_mid (by rfl) 36 _ rfl db 10 rfl [.int .i64 d.set.kind, .bool d.set.bool, .float .f64 d.set.num, .string d.set.str, .int .i64 d.set.id] _ (fun W hSW => range_set hSW.2) Tryz.underlying36 rfl Tryz.len36) ?_
  refine Ord.step (i := 17) rfl (by kernel_rfl) (by rfl) ?_
  intro K HK
  go_simp
  refine HK.out _ _ ?_
  clear HK
  refine Ord.kp ?_ ?_
  · exact ⟨⟨(hA2.alloc _).cellA 1, (hA2.alloc _).cellA 2⟩, hD2.alloc _⟩
  clear hS
  intro hS
  try simp only [List.setIfInBounds_toArray, List.set_cons_zero, List.set_cons_succ]
  refine Ord.step (i := 18) rfl (by kernel_rfl) (by rfl) ?_
  intro K HK
  refine wp_append_lies _ (.tmp 54) (.tmp 70) 116 rfl 0 36 i0 _ 5 _ Tryz.underlying116 hi0 hz0 hz1 hz2 rfl (by decide) (.slice none 0 0) 0 [] rfl ⟨rfl, .inl ⟨rfl, rfl⟩⟩ ⟨w2.heap.size, 0, none⟩ 3 3 [.int .i64 d.val.kind, .bool d.val.bool, .float .f64 d.val.num, .string d.val.str, .int .i64 d.val.id, .int .i64 d.get.kind, .bool d.get.bool, .float .f64 d.get.num, .string d.get.str, .int .i64 d.get.id, .int .i64 d.set.kind, .bool d.set.bool, .float .f64 d.set.num, .string d.set.str, .int .i64 d.set.id] rfl rfl (World.news_of_block (cs := ([.int .i64 d.val.kind, .bool d.val.bool, .float .f64 d.val.num, .string d.val.str, .int .i64 d.val.id, .int .i64 d.get.kind, .bool d.get.bool, .float .f64 d.get.num, .string d.get.str, .int .i64 d.get.id, .int .i64 d.set.kind, .bool d.set.bool, .float .f64 d.set.num, .string d.set.str, .int .i64 d.set.id]).toArray) (t := 36) (fr := (0, 0)) (heap_alloc_new w2 _)) (by simp [Value.oneCell']) (by decide) (by decide) (by decide) (Nat.zero_le _) _ rfl ?_
  intro gg cp w4 hown4 hgrow4 hat4 hlt4
  have hb4 := below_grown0 hgrow4
  have hA4 := (show Blk (w2.alloc _).drew _ _ _ from hA2.alloc _).next hb4
  have hD4 := (show Blk (w2.alloc _).drew _ _ _ from hD2.alloc _).next hb4
  refine HK.out _ _ ?_
  clear HK
  refine Ord.kp ?_ ?_
  · exact ⟨⟨hA4.cellA 1, hA4.cellA 2⟩, hD4⟩
  clear hS
  intro hS
  try simp only [List.setIfInBounds_toArray, List.set_cons_zero, List.set_cons_succ]
  refine Ord.tp 19 72 rfl rfl ?_
  refine Ord.step (i := 20) rfl (by kernel_rfl) (by rfl) ?_
  intro K HK
  have hcA4 := hA4.cellA
  have hfA4 := hA4.frozen
  go_simp
  refine HK.out _ _ ?_
  clear HK
  refine ⟨Ord.np (by kernel_rfl), ?_⟩
  try simp only [List.setIfInBounds_toArray, List.set_cons_zero, List.set_cons_succ]
  refine Ord.done (by kernel_rfl) ?_ _
  have h5 := only_setCell (o := 2) (v := .slice (some ⟨gg, 0, none⟩) 3 cp) hA4
  have hW4 : Below w.heap.size w w4 := more hL2 (((Below.refl _ w2).alloc (Nat.le_refl _) _).drew.trans (hb4.mono (by simp)))
  have hgl : w2.heap.size ≤ gg := by rcases hat4 with h | h; cases h; simp at h; omega
  have hlt2 := hA2.lt
  have hdb2 := hD2.lt
  have h0 : WrSt n0 w (w4.setCell ⟨w.heap.size, 2, none⟩ (.slice (some ⟨gg, 0, none⟩) 3 cp)) hb ov ob tp cap fuel deep kd ext L d kb db gg cp := by
    have hbl : Below w.heap.size w (w4.setCell ⟨w.heap.size, 2, none⟩ (.slice (some ⟨gg, 0, none⟩) 3 cp)) := below_only hW4 h5.2 (by simp)
    refine ⟨h5.1, hD4.only h5.2 (by have := hD.lt; simp; omega), ?_, s.below hbl, hbl⟩
    obtain ⟨C, hC, hT⟩ := row_block hown4
    exact ⟨C, hC.only h5.2 (by simp; omega), hT⟩
  clear hD4 hA4 h5 hgrow4 hown4 hat4 hb4 hlt4 hS hA2 hcA2 hD2 hD1 hA1 hD0 hK0 hA
  generalize w4.setCell ⟨w.heap.size, 2, none⟩ (.slice (some ⟨gg, 0, none⟩) 3 cp) = w5 at h0 ⊢
  have hcA5 := h0.a.cellA
  go_wp2
  clear hcA5
  refine wp_loop_rounds 4 ?_
  rw [rounds_succ]
  go_wp2_with (first | ((with_reducible show wpList _ _ _ (⟨_, .load 36 (.tmp 78), _, _, _, _⟩ :: _) _ _); refine wpList_load_part rfl 36 _ rfl gg 0 rfl h0.val Tryz.row36 Tryz.size36 ?_) | ((with_reducible show wpList _ _ _ (⟨_, .alloc 36, _, _, _, _⟩ :: _) _ _); refine wpList_alloc_blk rfl 36 rfl (vArr Dc.v0) zero36 ?_; intro u1 hB1 hLu1 hsu1; have hv1 := h0.next hLu1) | ((with_reducible show wpList _ _ _ (⟨_, .store 36 _ _, _, _, _, _⟩ :: _) _ _); refine wpList_store_blk rfl 36 _ _ rfl _ (vArr d.val) _ 36 rfl rfl hB1 Tryz.size36 rfl (vCells_one d.val) ?_; intro x1 hX1 hO1; have hx1 := h0.next (below_only hLu1 hO1 (by simp))) | ((with_reducible show wpList _ _ _ (⟨_, .load 36 (.tmp 10), _, _, _, _⟩ :: _) _ _); refine wpList_load_blk rfl 36 _ rfl _ rfl hX1 Tryz.row36 Tryz.size36 ?_) | (go_at_call 92; refine (cval hx1.s).mono ?_; rintro e y1 ⟨rfl, hy1⟩; have h1 := hx1.next hy1))
  rw [rounds_succ]
  go_wp2_with (first | ((with_reducible show wpList _ _ _ (⟨_, .load 36 (.tmp 78), _, _, _, _⟩ :: _) _ _); refine wpList_load_part rfl 36 _ rfl gg 5 rfl h1.get Tryz.row36 Tryz.size36 ?_) | ((with_reducible show wpList _ _ _ (⟨_, .alloc 36, _, _, _, _⟩ :: _) _ _); refine wpList_alloc_blk rfl 36 rfl (vArr Dc.v0) zero36 ?_; intro u2 hB2 hLu2 hsu2; have hv2 := h1.next hLu2) | ((with_reducible show wpList _ _ _ (⟨_, .store 36 _ _, _, _, _, _⟩ :: _) _ _); refine wpList_store_blk rfl 36 _ _ rfl _ (vArr d.get) _ 36 rfl rfl hB2 Tryz.size36 rfl (vCells_one d.get) ?_; intro x2 hX2 hO2; have hx2 := h1.next (below_only hLu2 hO2 (by simp))) | ((with_reducible show wpList _ _ _ (⟨_, .load 36 (.tmp 10), _, _, _, _⟩ :: _) _ _); refine wpList_load_blk rfl 36 _ rfl _ rfl hX2 Tryz.row36 Tryz.size36 ?_) | (go_at_call 92; refine (cget hx2.s).mono ?_; rintro e y2 ⟨rfl, hy2⟩; have h2 := hx2.next hy2))
  go_ret
  exact ⟨rfl, h2.b⟩

theorem wrong_lost3 {n0 : Nat} {w : World} {hb : Nat} {ov : Value} {ob : Nat} {tp : Option Addr} {cap fuel deep : Int} {kd : Kd} {ext : Bool} {L : List (Ky × Ds)} (s : StX n0 w hb ov ob tp cap fuel deep kd ext L) (hk : KdOk kd) (k : Ky) (d : Ds) (hd : Nums d) (kb db : Nat) (hK : Blk w kb (kArr k) 40) (hD : Blk w db (dArr d) 43) (hg : kgood k = true) (hkd : Dc.kindB uvalid d = true) (hv : lostV d.val = false) (hgt : lostV d.get = false) (hl : lostV d.set = true) : Calls Tryz.prog 55 #[.pointer (some ⟨hb, 0, none⟩), .int .i64 1, .agg #[.pointer (some ⟨kb, 0, none⟩), .pointer (some ⟨db, 0, none⟩), .slice none 0 0]] w fun e w' => e = .returned (.int .i64 4) ∧ Below w.heap.size w w' := by
  have cK := fun W (h : Below w.heap.size w W) => keycheck_any k W (s.tabs.below h)
  have cD := fun W (h : Below w.heap.size w W) => dcheck_any d W (s.tabs.below h) hd
  simp only [hg, hkd, if_true] at cK cD
  obtain ⟨i0, hi0, hz0, hz1, hz2⟩ := info_parts Tryz.info36
  have cval := fun {W : World} (s : StX n0 W hb ov ob tp cap fuel deep kd ext L) => lost_any s d.val
  have cget := fun {W : World} (s : StX n0 W hb ov ob tp cap fuel deep kd ext L) => lost_any s d.get
  have cset := fun {W : World} (s : StX n0 W hb ov ob tp cap fuel deep kd ext L) => lost_any s d.set
  simp only [hv] at cval
  simp only [hgt] at cget
  simp only [hl] at cset
  clear hg hkd hl hv hgt
  go_enter Tryz.func55, Tryz.ntmps55
  go_wp2_with (first | ((with_reducible show wpList _ _ _ (⟨_, .box 118 _, _, _, _, _⟩ :: _) _ _); refine wpList_box_blk rfl 118 _ rfl (aArr (some ⟨kb, 0, none⟩) (some ⟨db, 0, none⟩) (.slice none 0 0)) rfl ?_; intro w0 hA hL hs; have hcA := hA.cellA; have s0 := s.below hL; have hK0 := hK.next hL; have hcK := hK0.cellK; have hD0 := hD.next hL; have hLK := hL) | (go_at_call 83; refine (has_one s0).mono ?_; rintro e w' ⟨rfl, rfl⟩) | (go_at_call 13; refine (cK _ hLK).mono ?_; rintro e w1 ⟨rfl, hb1⟩; have hA1 := hA.next hb1; have hcA1 := hA1.cellA; clear hcA hcK; have hD1 := hD0.next hb1; have hL1 := more hL hb1) | ((with_reducible show wpList _ _ _ (⟨_, .load 43 _, _, _, _, _⟩ :: _) _ _); refine wpList_load_blkW (by rfl) 43 _ rfl db rfl hD1 Tryz.row43 Tryz.size43 ?_) | (go_at_call 104; refine (cD _ hL1).mono ?_; rintro e w2 ⟨rfl, hb2⟩; have hA2 := hA1.next hb2; have hcA2 := hA2.cellA; clear hcA1; have hD2 := hD1.next hb2; have hL2 := more hL1 hb2))
  refine wp_loop_rounds 1 ?_
  rw [rounds_succ]
  go_wp2
  refine Ord.region (fun W => (W.cell? ⟨w.heap.size, 1, none⟩ = some (.pointer (some ⟨db, 0, none⟩)) ∧ W.cell? ⟨w.heap.size, 2, none⟩ = some (.slice none 0 0)) ∧ Blk W db (dArr d) 43) [] (by kernel_rfl) ⟨⟨hcA2 1, hcA2 2⟩, hD2⟩ ?_
  intro hS
  refine Ord.tp 0 53 rfl rfl ?_
  refine Ord.tp 1 54 rfl rfl ?_
  refine Ord.tp 2 55 rfl rfl ?_
  refine Ord.tp 3 56 rfl rfl ?_
  refine Ord.tp 4 57 rfl rfl ?_
  refine Ord.tp 5 58 rfl rfl ?_
  refine Ord.tk 6 59 rfl rfl (yieldsIf_load_mid (by rfl) 36 _ rfl db 0 rfl [.int .i64 d.val.kind, .bool d.val.bool, .float .f64 d.val.num, .string d.val.str, .int .i64 d.val.id] _ (fun W hSW => range_val hSW.2) Tryz.underlying36 rfl Tryz.len36) ?_
  refine Ord.tp 7 60 rfl rfl ?_
  refine Ord.tp 8 61 rfl rfl ?_
  refine Ord.tp 9 62 rfl rfl ?_
  refine Ord.tp 10 63 rfl rfl ?_
  refine Ord.tk 11 64 rfl rfl (yieldsIf_load_mid (by rfl) 36 _ rfl db 5 rfl [.int .i64 d.get.kind, .bool d.get.bool, .float .f64 d.get.num, .string d.get.str, .int .i64 d.get.id] _ (fun W hSW => range_get hSW.2) Tryz.underlying36 rfl Tryz.len36) ?_
  refine Ord.tp 12 65 rfl rfl ?_
  refine Ord.tp 13 66 rfl rfl ?_
  refine Ord.tp 14 67 rfl rfl ?_
  refine Ord.tp 15 68 rfl rfl ?_
  refine Ord.tk 16 69 rfl rfl (yieldsIf_load_mid (by rfl) 36 _ rfl db 10 rfl [.int .i64 d.set.kind, .bool d.set.bool, .float .f64 d.set.num, .string d.set.str, .int .i64 d.set.id] _ (fun W hSW => range_set hSW.2) Tryz.underlying36 rfl Tryz.len36) ?_
  refine Ord.step (i := 17) rfl (by kernel_rfl) (by rfl) ?_
  intro K HK
  go_simp
  refine HK.out _ _ ?_
  clear HK
  refine Ord.kp ?_ ?_
  · exact ⟨⟨(hA2.alloc _).cellA 1, (hA2.alloc _).cellA 2⟩, hD2.alloc _⟩
  clear hS
  intro hS
  try simp only [List.setIfInBounds_toArray, List.set_cons_zero, List.set_cons_succ]
  refine Ord.step (i := 18) rfl (by kernel_rfl) (by rfl) ?_
  intro K HK
  refine wp_append_lies _ (.tmp 54) (.tmp 70) 116 rfl 0 36 i0 _ 5 _ Tryz.underlying116 hi0 hz0 hz1 hz2 rfl (by decide) (.slice none 0 0) 0 [] rfl ⟨rfl, .inl ⟨rfl, rfl⟩⟩ ⟨w2.heap.size, 0, none⟩ 3 3 [.int .i64 d.val.kind, .bool d.val.bool, .float .f64 d.val.num, .string d.val.str, .int .i64 d.val.id, .int .i64 d.get.kind, .bool d.get.bool, .float .f64 d.get.num, .string d.get.str, .int .i64 d.get.id, .int .i64 d.set.kind, .bool d.set.bool, .float .f64 d.set.num, .string d.set.str, .int .i64 d.set.id] rfl rfl (World.news_of_block (cs := ([.int .i64 d.val.kind, .bool d.val.bool, .float .f64 d.val.num, .string d.val.str, .int .i64 d.val.id, .int .i64 d.get.kind, .bool d.get.bool, .float .f64 d.get.num, .string d.get.str, .int .i64 d.get.id, .int .i64 d.set.kind, .bool d.set.bool, .float .f64 d.set.num, .string d.set.str, .int .i64 d.set.id]).toArray) (t := 36) (fr := (0, 0)) (heap_alloc_new w2 _)) (by simp [Value.oneCell']) (by decide) (by decide) (by decide) (Nat.zero_le _) _ rfl ?_
  intro gg cp w4 hown4 hgrow4 hat4 hlt4
  have hb4 := below_grown0 hgrow4
  have hA4 := (show Blk (w2.alloc _).drew _ _ _ from hA2.alloc _).next hb4
  have hD4 := (show Blk (w2.alloc _).drew _ _ _ from hD2.alloc _).next hb4
  refine HK.out _ _ ?_
  clear HK
  refine Ord.kp ?_ ?_
  · exact ⟨⟨hA4.cellA 1, hA4.cellA 2⟩, hD4⟩
  clear hS
  intro hS
  try simp only [List.setIfInBounds_toArray, List.set_cons_zero, List.set_cons_succ]
  refine Ord.tp 19 72 rfl rfl ?_
  refine Ord.step (i := 20) rfl (by kernel_rfl) (by rfl) ?_
  intro K HK
  have hcA4 := hA4.cellA
  have hfA4 := hA4.frozen
  go_simp
  refine HK.out _ _ ?_
  clear HK
  refine ⟨Ord.np (by kernel_rfl), ?_⟩
  try simp only [List.setIfInBounds_toArray, List.set_cons_zero, List.set_cons_succ]
  refine Ord.done (by kernel_rfl) ?_ _
  have h5 := only_setCell (o := 2) (v := .slice (some ⟨gg, 0, none⟩) 3 cp) hA4
  have hW4 : Below w.heap.size w w4 := more hL2 (((Below.refl _ w2).alloc (Nat.le_refl _) _).drew.trans (hb4.mono (by simp)))
  have hgl : w2.heap.size ≤ gg := by rcases hat4 with h | h; cases h; simp at h; omega
  have hlt2 := hA2.lt
  have hdb2 := hD2.lt
  have h0 : WrSt n0 w (w4.setCell ⟨w.heap.size, 2, none⟩ (.slice (some ⟨gg, 0, none⟩) 3 cp)) hb ov ob tp cap fuel deep kd ext L d kb db gg cp := by
    have hbl : Below w.heap.size w (w4.setCell ⟨w.heap.size, 2, none⟩ (.slice (some ⟨gg, 0, none⟩) 3 cp)) := below_only hW4 h5.2 (by simp)
    refine ⟨h5.1, hD4.only h5.2 (by have := hD.lt; simp; omega), ?_, s.below hbl, hbl⟩
    obtain ⟨C, hC, hT⟩ := row_block hown4
    exact ⟨C, hC.only h5.2 (by simp; omega), hT⟩
  clear hD4 hA4 h5 hgrow4 hown4 hat4 hb4 hlt4 hS hA2 hcA2 hD2 hD1 hA1 hD0 hK0 hA
  generalize w4.setCell ⟨w.heap.size, 2, none⟩ (.slice (some ⟨gg, 0, none⟩) 3 cp) = w5 at h0 ⊢
  have hcA5 := h0.a.cellA
  go_wp2
  clear hcA5
  refine wp_loop_rounds 4 ?_
  rw [rounds_succ]
  go_wp2_with (first | ((with_reducible show wpList _ _ _ (⟨_, .load 36 (.tmp 78), _, _, _, _⟩ :: _) _ _); refine wpList_load_part rfl 36 _ rfl gg 0 rfl h0.val Tryz.row36 Tryz.size36 ?_) | ((with_reducible show wpList _ _ _ (⟨_, .alloc 36, _, _, _, _⟩ :: _) _ _); refine wpList_alloc_blk rfl 36 rfl (vArr Dc.v0) zero36 ?_; intro u1 hB1 hLu1 hsu1; have hv1 := h0.next hLu1) | ((with_reducible show wpList _ _ _ (⟨_, .store 36 _ _, _, _, _, _⟩ :: _) _ _); refine wpList_store_blk rfl 36 _ _ rfl _ (vArr d.val) _ 36 rfl rfl hB1 Tryz.size36 rfl (vCells_one d.val) ?_; intro x1 hX1 hO1; have hx1 := h0.next (below_only hLu1 hO1 (by simp))) | ((with_reducible show wpList _ _ _ (⟨_, .load 36 (.tmp 10), _, _, _, _⟩ :: _) _ _); refine wpList_load_blk rfl 36 _ rfl _ rfl hX1 Tryz.row36 Tryz.size36 ?_) | (go_at_call 92; refine (cval hx1.s).mono ?_; rintro e y1 ⟨rfl, hy1⟩; have h1 := hx1.next hy1))
  rw [rounds_succ]
  go_wp2_with (first | ((with_reducible show wpList _ _ _ (⟨_, .load 36 (.tmp 78), _, _, _, _⟩ :: _) _ _); refine wpList_load_part rfl 36 _ rfl gg 5 rfl h1.get Tryz.row36 Tryz.size36 ?_) | ((with_reducible show wpList _ _ _ (⟨_, .alloc 36, _, _, _, _⟩ :: _) _ _); refine wpList_alloc_blk rfl 36 rfl (vArr Dc.v0) zero36 ?_; intro u2 hB2 hLu2 hsu2; have hv2 := h1.next hLu2) | ((with_reducible show wpList _ _ _ (⟨_, .store 36 _ _, _, _, _, _⟩ :: _) _ _); refine wpList_store_blk rfl 36 _ _ rfl _ (vArr d.get) _ 36 rfl rfl hB2 Tryz.size36 rfl (vCells_one d.get) ?_; intro x2 hX2 hO2; have hx2 := h1.next (below_only hLu2 hO2 (by simp))) | ((with_reducible show wpList _ _ _ (⟨_, .load 36 (.tmp 10), _, _, _, _⟩ :: _) _ _); refine wpList_load_blk rfl 36 _ rfl _ rfl hX2 Tryz.row36 Tryz.size36 ?_) | (go_at_call 92; refine (cget hx2.s).mono ?_; rintro e y2 ⟨rfl, hy2⟩; have h2 := hx2.next hy2))
  rw [rounds_succ]
  go_wp2_with (first | ((with_reducible show wpList _ _ _ (⟨_, .load 36 (.tmp 78), _, _, _, _⟩ :: _) _ _); refine wpList_load_part rfl 36 _ rfl gg 10 rfl h2.set Tryz.row36 Tryz.size36 ?_) | ((with_reducible show wpList _ _ _ (⟨_, .alloc 36, _, _, _, _⟩ :: _) _ _); refine wpList_alloc_blk rfl 36 rfl (vArr Dc.v0) zero36 ?_; intro u3 hB3 hLu3 hsu3; have hv3 := h2.next hLu3) | ((with_reducible show wpList _ _ _ (⟨_, .store 36 _ _, _, _, _, _⟩ :: _) _ _); refine wpList_store_blk rfl 36 _ _ rfl _ (vArr d.set) _ 36 rfl rfl hB3 Tryz.size36 rfl (vCells_one d.set) ?_; intro x3 hX3 hO3; have hx3 := h2.next (below_only hLu3 hO3 (by simp))) | ((with_reducible show wpList _ _ _ (⟨_, .load 36 (.tmp 10), _, _, _, _⟩ :: _) _ _); refine wpList_load_blk rfl 36 _ rfl _ rfl hX3 Tryz.row36 Tryz.size36 ?_) | (go_at_call 92; refine (cset hx3.s).mono ?_; rintro e y3 ⟨rfl, hy3⟩; have h3 := hx3.next hy3))
  go_ret
  exact ⟨rfl, h3.b⟩

theorem wrong_calls {n0 : Nat} {w : World} {hb : Nat} {ov : Value} {ob : Nat} {tp : Option Addr} {cap fuel deep : Int} {kd : Kd} {ext : Bool} {L : List (Ky × Ds)} (s : StX n0 w hb ov ob tp cap fuel deep kd ext L) (hk : KdOk kd) (k : Ky) (d : Ds) (hd : Nums d) (kb db : Nat) (hK : Blk w kb (kArr k) 40) (hD : Blk w db (dArr d) 43) (hg : kgood k = true) (hkd : Dc.kindB uvalid d = true) (hv : lostV d.val = false) (hgt : lostV d.get = false) (hl : lostV d.set = false) : Calls Tryz.prog 55 #[.pointer (some ⟨hb, 0, none⟩), .int .i64 1, .agg #[.pointer (some ⟨kb, 0, none⟩), .pointer (some ⟨db, 0, none⟩), .slice none 0 0]] w fun e w' => e = .returned (.int .i64 (if d.get.kind ≠ 7 ∧ d.set.kind ≠ 7 then 0 else 8)) ∧ Below w.heap.size w w' := by
  have cK := fun W (h : Below w.heap.size w W) => keycheck_any k W (s.tabs.below h)
  have cD := fun W (h : Below w.heap.size w W) => dcheck_any d W (s.tabs.below h) hd
  simp only [hg, hkd, if_true] at cK cD
  obtain ⟨i0, hi0, hz0, hz1, hz2⟩ := info_parts Tryz.info36
  have cval := fun {W : World} (s : StX n0 W hb ov ob tp cap fuel deep kd ext L) => lost_any s d.val
  have cget := fun {W : World} (s : StX n0 W hb ov ob tp cap fuel deep kd ext L) => lost_any s d.get
  have cset := fun {W : World} (s : StX n0 W hb ov ob tp cap fuel deep kd ext L) => lost_any s d.set
  simp only [hv] at cval
  simp only [hgt] at cget
  simp only [hl] at cset
  have hf : Dc.formed uvalid d = true := by
    cases hh : Dc.formed uvalid d
    · simp [Dc.kindB, hh] at hkd
    · rfl
  rw [Dc.formed_iff, Dc.callab_iff, Dc.callab_iff] at hf
  have k1 : d.get.kind = 7 → Dc.good uvalid d.get = true ∧ d.get.id = 1 := fun h7 => by
    refine ⟨?_, by simpa [lostV, h7] using hgt⟩
    rcases hf.2.1 with h | h
    · simp [Dc.absent, h7] at h
    · exact h.1
  have k2 : d.set.kind = 7 → Dc.good uvalid d.set = true ∧ d.set.id = 1 := fun h7 => by
    refine ⟨?_, by simpa [lostV, h7] using hl⟩
    rcases hf.2.2.1 with h | h
    · simp [Dc.absent, h7] at h
    · exact h.1
  have cC := fun {W : World} (s : StX n0 W hb ov ob tp cap fuel deep kd ext L) => callables_any s hk d hd k1 k2
  clear hg hkd hl hv hgt hf k1 k2
  by_cases hc : d.get.kind ≠ 7 ∧ d.set.kind ≠ 7
  · rw [if_pos hc]
    simp only [hc, ne_eq, not_false_eq_true, and_self, decide_true] at cC
    clear hc
    go_enter Tryz.func55, Tryz.ntmps55
    go_wp2_with (first | ((with_reducible show wpList _ _ _ (⟨_, .box 118 _, _, _, _, _⟩ :: _) _ _); refine wpList_box_blk rfl 118 _ rfl (aArr (some ⟨kb, 0, none⟩) (some ⟨db, 0, none⟩) (.slice none 0 0)) rfl ?_; intro w0 hA hL hs; have hcA := hA.cellA; have s0 := s.below hL; have hK0 := hK.next hL; have hcK := hK0.cellK; have hD0 := hD.next hL; have hLK := hL) | (go_at_call 83; refine (has_one s0).mono ?_; rintro e w' ⟨rfl, rfl⟩) | (go_at_call 13; refine (cK _ hLK).mono ?_; rintro e w1 ⟨rfl, hb1⟩; have hA1 := hA.next hb1; have hcA1 := hA1.cellA; clear hcA hcK; have hD1 := hD0.next hb1; have hL1 := more hL hb1) | ((with_reducible show wpList _ _ _ (⟨_, .load 43 _, _, _, _, _⟩ :: _) _ _); refine wpList_load_blkW (by rfl) 43 _ rfl db rfl hD1 Tryz.row43 Tryz.size43 ?_) | (go_at_call 104; refine (cD _ hL1).mono ?_; rintro e w2 ⟨rfl, hb2⟩; have hA2 := hA1.next hb2; have hcA2 := hA2.cellA; clear hcA1; have hD2 := hD1.next hb2; have hL2 := more hL1 hb2))
    refine wp_loop_rounds 1 ?_
    rw [rounds_succ]
    go_wp2
    refine Ord.region (fun W => (W.cell? ⟨w.heap.size, 1, none⟩ = some (.pointer (some ⟨db, 0, none⟩)) ∧ W.cell? ⟨w.heap.size, 2, none⟩ = some (.slice none 0 0)) ∧ Blk W db (dArr d) 43) [] (by kernel_rfl) ⟨⟨hcA2 1, hcA2 2⟩, hD2⟩ ?_
    intro hS
    refine Ord.tp 0 53 rfl rfl ?_
    refine Ord.tp 1 54 rfl rfl ?_
    refine Ord.tp 2 55 rfl rfl ?_
    refine Ord.tp 3 56 rfl rfl ?_
    refine Ord.tp 4 57 rfl rfl ?_
    refine Ord.tp 5 58 rfl rfl ?_
    refine Ord.tk 6 59 rfl rfl (yieldsIf_load_mid (by rfl) 36 _ rfl db 0 rfl [.int .i64 d.val.kind, .bool d.val.bool, .float .f64 d.val.num, .string d.val.str, .int .i64 d.val.id] _ (fun W hSW => range_val hSW.2) Tryz.underlying36 rfl Tryz.len36) ?_
    refine Ord.tp 7 60 rfl rfl ?_
    refine Ord.tp 8 61 rfl rfl ?_
    refine Ord.tp 9 62 rfl rfl ?_
    refine Ord.tp 10 63 rfl rfl ?_
    refine Ord.tk 11 64 rfl rfl (yieldsIf_load_mid (by rfl) 36 _ rfl db 5 rfl [.int .i64 d.get.kind, .bool d.get.bool, .float .f64 d.get.num, .string d.get.str, .int .i64 d.get.id] _ (fun W hSW => range_get hSW.2) Tryz.underlying36 rfl Tryz.len36) ?_
    refine Ord.tp 12 65 rfl rfl ?_
    refine Ord.tp 13 66 rfl rfl ?_
    refine Ord.tp 14 67 rfl rfl ?_
    refine Ord.tp 15 68 rfl rfl ?_
    refine Ord.tk 16 69 rfl rfl (yieldsIf_load_mid (by rfl) 36 _ rfl db 10 rfl [.int .i64 d.set.kind, .bool d.set.bool, .float .f64 d.set.num, .string d.set.str, .int .i64 d.set.id] _ (fun W hSW => range_set hSW.2) Tryz.underlying36 rfl Tryz.len36) ?_
    refine Ord.step (i := 17) rfl (by kernel_rfl) (by rfl) ?_
    intro K HK
    go_simp
    refine HK.out _ _ ?_
    clear HK
    refine Ord.kp ?_ ?_
    · exact ⟨⟨(hA2.alloc _).cellA 1, (hA2.alloc _).cellA 2⟩, hD2.alloc _⟩
    clear hS
    intro hS
    try simp only [List.setIfInBounds_toArray, List.set_cons_zero, List.set_cons_succ]
    refine Ord.step (i := 18) rfl (by kernel_rfl) (by rfl) ?_
    intro K HK
    refine wp_append_lies _ (.tmp 54) (.tmp 70) 116 rfl 0 36 i0 _ 5 _ Tryz.underlying116 hi0 hz0 hz1 hz2 rfl (by decide) (.slice none 0 0) 0 [] rfl ⟨rfl, .inl ⟨rfl, rfl⟩⟩ ⟨w2.heap.size, 0, none⟩ 3 3 [.int .i64 d.val.kind, .bool d.val.bool, .float .f64 d.val.num, .string d.val.str, .int .i64 d.val.id, .int .i64 d.get.kind, .bool d.get.bool, .float .f64 d.get.num, .string d.get.str, .int .i64 d.get.id, .int .i64 d.set.kind, .bool d.set.bool, .float .f64 d.set.num, .string d.set.str, .int .i64 d.set.id] rfl rfl (World.news_of_block (cs := ([.int .i64 d.val.kind, .bool d.val.bool, .float .f64 d.val.num, .string d.val.str, .int .i64 d.val.id, .int .i64 d.get.kind, .bool d.get.bool, .float .f64 d.get.num, .string d.get.str, .int .i64 d.get.id, .int .i64 d.set.kind, .bool d.set.bool, .float .f64 d.set.num, .string d.set.str, .int .i64 d.set.id]).toArray) (t := 36) (fr := (0, 0)) (heap_alloc_new w2 _)) (by simp [Value.oneCell']) (by decide) (by decide) (by decide) (Nat.zero_le _) _ rfl ?_
    intro gg cp w4 hown4 hgrow4 hat4 hlt4
    have hb4 := below_grown0 hgrow4
    have hA4 := (show Blk (w2.alloc _).drew _ _ _ from hA2.alloc _).next hb4
    have hD4 := (show Blk (w2.alloc _).drew _ _ _ from hD2.alloc _).next hb4
    refine HK.out _ _ ?_
    clear HK
    refine Ord.kp ?_ ?_
    · exact ⟨⟨hA4.cellA 1, hA4.cellA 2⟩, hD4⟩
    clear hS
    intro hS
    try simp only [List.setIfInBounds_toArray, List.set_cons_zero, List.set_cons_succ]
    refine Ord.tp 19 72 rfl rfl ?_
    refine Ord.step (i := 20) rfl (by kernel_rfl) (by rfl) ?_
    intro K HK
    have hcA4 := hA4.cellA
    have hfA4 := hA4.frozen
    go_simp
    refine HK.out _ _ ?_
    clear HK
    refine ⟨Ord.np (by kernel_rfl), ?_⟩
    try simp only [List.setIfInBounds_toArray, List.set_cons_zero, List.set_cons_succ]
    refine Ord.done (by kernel_rfl) ?_ _
    have h5 := only_setCell (o := 2) (v := .slice (some ⟨gg, 0, none⟩) 3 cp) hA4
    have hW4 : Below w.heap.size w w4 := more hL2 (((Below.refl _ w2).alloc (Nat.le_refl _) _).drew.trans (hb4.mono (by simp)))
    have hgl : w2.heap.size ≤ gg := by rcases hat4 with h | h; cases h; simp at h; omega
    have hlt2 := hA2.lt
    have hdb2 := hD2.lt
    have h0 : WrSt n0 w (w4.setCell ⟨w.heap.size, 2, none⟩ (.slice (some ⟨gg, 0, none⟩) 3 cp)) hb ov ob tp cap fuel deep kd ext L d kb db gg cp := by
      have hbl : Below w.heap.size w (w4.setCell ⟨w.heap.size, 2, none⟩ (.slice (some ⟨gg, 0, none⟩) 3 cp)) := below_only hW4 h5.2 (by simp)
      refine ⟨h5.1, hD4.only h5.2 (by have := hD.lt; simp; omega), ?_, s.below hbl, hbl⟩
      obtain ⟨C, hC, hT⟩ := row_block hown4
      exact ⟨C, hC.only h5.2 (by simp; omega), hT⟩
    clear hD4 hA4 h5 hgrow4 hown4 hat4 hb4 hlt4 hS hA2 hcA2 hD2 hD1 hA1 hD0 hK0 hA
    generalize w4.setCell ⟨w.heap.size, 2, none⟩ (.slice (some ⟨gg, 0, none⟩) 3 cp) = w5 at h0 ⊢
    have hcA5 := h0.a.cellA
    go_wp2
    clear hcA5
    refine wp_loop_rounds 4 ?_
    rw [rounds_succ]
    go_wp2_with (first | ((with_reducible show wpList _ _ _ (⟨_, .load 36 (.tmp 78), _, _, _, _⟩ :: _) _ _); refine wpList_load_part rfl 36 _ rfl gg 0 rfl h0.val Tryz.row36 Tryz.size36 ?_) | ((with_reducible show wpList _ _ _ (⟨_, .alloc 36, _, _, _, _⟩ :: _) _ _); refine wpList_alloc_blk rfl 36 rfl (vArr Dc.v0) zero36 ?_; intro u1 hB1 hLu1 hsu1; have hv1 := h0.next hLu1) | ((with_reducible show wpList _ _ _ (⟨_, .store 36 _ _, _, _, _, _⟩ :: _) _ _); refine wpList_store_blk rfl 36 _ _ rfl _ (vArr d.val) _ 36 rfl rfl hB1 Tryz.size36 rfl (vCells_one d.val) ?_; intro x1 hX1 hO1; have hx1 := h0.next (below_only hLu1 hO1 (by simp))) | ((with_reducible show wpList _ _ _ (⟨_, .load 36 (.tmp 10), _, _, _, _⟩ :: _) _ _); refine wpList_load_blk rfl 36 _ rfl _ rfl hX1 Tryz.row36 Tryz.size36 ?_) | (go_at_call 92; refine (cval hx1.s).mono ?_; rintro e y1 ⟨rfl, hy1⟩; have h1 := hx1.next hy1))
    rw [rounds_succ]
    go_wp2_with (first | ((with_reducible show wpList _ _ _ (⟨_, .load 36 (.tmp 78), _, _, _, _⟩ :: _) _ _); refine wpList_load_part rfl 36 _ rfl gg 5 rfl h1.get Tryz.row36 Tryz.size36 ?_) | ((with_reducible show wpList _ _ _ (⟨_, .alloc 36, _, _, _, _⟩ :: _) _ _); refine wpList_alloc_blk rfl 36 rfl (vArr Dc.v0) zero36 ?_; intro u2 hB2 hLu2 hsu2; have hv2 := h1.next hLu2) | ((with_reducible show wpList _ _ _ (⟨_, .store 36 _ _, _, _, _, _⟩ :: _) _ _); refine wpList_store_blk rfl 36 _ _ rfl _ (vArr d.get) _ 36 rfl rfl hB2 Tryz.size36 rfl (vCells_one d.get) ?_; intro x2 hX2 hO2; have hx2 := h1.next (below_only hLu2 hO2 (by simp))) | ((with_reducible show wpList _ _ _ (⟨_, .load 36 (.tmp 10), _, _, _, _⟩ :: _) _ _); refine wpList_load_blk rfl 36 _ rfl _ rfl hX2 Tryz.row36 Tryz.size36 ?_) | (go_at_call 92; refine (cget hx2.s).mono ?_; rintro e y2 ⟨rfl, hy2⟩; have h2 := hx2.next hy2))
    rw [rounds_succ]
    go_wp2_with (first | ((with_reducible show wpList _ _ _ (⟨_, .load 36 (.tmp 78), _, _, _, _⟩ :: _) _ _); refine wpList_load_part rfl 36 _ rfl gg 10 rfl h2.set Tryz.row36 Tryz.size36 ?_) | ((with_reducible show wpList _ _ _ (⟨_, .alloc 36, _, _, _, _⟩ :: _) _ _); refine wpList_alloc_blk rfl 36 rfl (vArr Dc.v0) zero36 ?_; intro u3 hB3 hLu3 hsu3; have hv3 := h2.next hLu3) | ((with_reducible show wpList _ _ _ (⟨_, .store 36 _ _, _, _, _, _⟩ :: _) _ _); refine wpList_store_blk rfl 36 _ _ rfl _ (vArr d.set) _ 36 rfl rfl hB3 Tryz.size36 rfl (vCells_one d.set) ?_; intro x3 hX3 hO3; have hx3 := h2.next (below_only hLu3 hO3 (by simp))) | ((with_reducible show wpList _ _ _ (⟨_, .load 36 (.tmp 10), _, _, _, _⟩ :: _) _ _); refine wpList_load_blk rfl 36 _ rfl _ rfl hX3 Tryz.row36 Tryz.size36 ?_) | (go_at_call 92; refine (cset hx3.s).mono ?_; rintro e y3 ⟨rfl, hy3⟩; have h3 := hx3.next hy3))
    rw [rounds_succ]
    have hcA5 := h3.a.cellA
    go_wp2_with (first | ((with_reducible show wpList _ _ _ (⟨_, .load 43 _, _, _, _, _⟩ :: _) _ _); refine wpList_load_blkW (by rfl) 43 _ rfl db rfl h3.dd Tryz.row43 Tryz.size43 ?_) | (go_at_call 105; refine (cC h3.s).mono ?_; rintro e y4 ⟨rfl, hy4⟩))
    go_ret
    exact ⟨rfl, more h3.b hy4⟩
  · rw [if_neg hc]
    simp only [hc, decide_false] at cC
    clear hc
    go_enter Tryz.func55, Tryz.ntmps55
    go_wp2_with (first | ((with_reducible show wpList _ _ _ (⟨_, .box 118 _, _, _, _, _⟩ :: _) _ _); refine wpList_box_blk rfl 118 _ rfl (aArr (some ⟨kb, 0, none⟩) (some ⟨db, 0, none⟩) (.slice none 0 0)) rfl ?_; intro w0 hA hL hs; have hcA := hA.cellA; have s0 := s.below hL; have hK0 := hK.next hL; have hcK := hK0.cellK; have hD0 := hD.next hL; have hLK := hL) | (go_at_call 83; refine (has_one s0).mono ?_; rintro e w' ⟨rfl, rfl⟩) | (go_at_call 13; refine (cK _ hLK).mono ?_; rintro e w1 ⟨rfl, hb1⟩; have hA1 := hA.next hb1; have hcA1 := hA1.cellA; clear hcA hcK; have hD1 := hD0.next hb1; have hL1 := more hL hb1) | ((with_reducible show wpList _ _ _ (⟨_, .load 43 _, _, _, _, _⟩ :: _) _ _); refine wpList_load_blkW (by rfl) 43 _ rfl db rfl hD1 Tryz.row43 Tryz.size43 ?_) | (go_at_call 104; refine (cD _ hL1).mono ?_; rintro e w2 ⟨rfl, hb2⟩; have hA2 := hA1.next hb2; have hcA2 := hA2.cellA; clear hcA1; have hD2 := hD1.next hb2; have hL2 := more hL1 hb2))
    refine wp_loop_rounds 1 ?_
    rw [rounds_succ]
    go_wp2
    refine Ord.region (fun W => (W.cell? ⟨w.heap.size, 1, none⟩ = some (.pointer (some ⟨db, 0, none⟩)) ∧ W.cell? ⟨w.heap.size, 2, none⟩ = some (.slice none 0 0)) ∧ Blk W db (dArr d) 43) [] (by kernel_rfl) ⟨⟨hcA2 1, hcA2 2⟩, hD2⟩ ?_
    intro hS
    refine Ord.tp 0 53 rfl rfl ?_
    refine Ord.tp 1 54 rfl rfl ?_
    refine Ord.tp 2 55 rfl rfl ?_
    refine Ord.tp 3 56 rfl rfl ?_
    refine Ord.tp 4 57 rfl rfl ?_
    refine Ord.tp 5 58 rfl rfl ?_
    refine Ord.tk 6 59 rfl rfl (yieldsIf_load_mid (by rfl) 36 _ rfl db 0 rfl [.int .i64 d.val.kind, .bool d.val.bool, .float .f64 d.val.num, .string d.val.str, .int .i64 d.val.id] _ (fun W hSW => range_val hSW.2) Tryz.underlying36 rfl Tryz.len36) ?_
    refine Ord.tp 7 60 rfl rfl ?_
    refine Ord.tp 8 61 rfl rfl ?_
    refine Ord.tp 9 62 rfl rfl ?_
    refine Ord.tp 10 63 rfl rfl ?_
    refine Ord.tk 11 64 rfl rfl (yieldsIf_load_mid (by rfl) 36 _ rfl db 5 rfl [.int .i64 d.get.kind, .bool d.get.bool, .float .f64 d.get.num, .string d.get.str, .int .i64 d.get.id] _ (fun W hSW => range_get hSW.2) Tryz.underlying36 rfl Tryz.len36) ?_
    refine Ord.tp 12 65 rfl rfl ?_
    refine Ord.tp 13 66 rfl rfl ?_
    refine Ord.tp 14 67 rfl rfl ?_
    refine Ord.tp 15 68 rfl rfl ?_
    refine Ord.tk 16 69 rfl rfl (yieldsIf_load_mid (by rfl) 36 _ rfl db 10 rfl [.int .i64 d.set.kind, .bool d.set.bool, .float .f64 d.set.num, .string d.set.str, .int .i64 d.set.id] _ (fun W hSW => range_set hSW.2) Tryz.underlying36 rfl Tryz.len36) ?_
    refine Ord.step (i := 17) rfl (by kernel_rfl) (by rfl) ?_
    intro K HK
    go_simp
    refine HK.out _ _ ?_
    clear HK
    refine Ord.kp ?_ ?_
    · exact ⟨⟨(hA2.alloc _).cellA 1, (hA2.alloc _).cellA 2⟩, hD2.alloc _⟩
    clear hS
    intro hS
    try simp only [List.setIfInBounds_toArray, List.set_cons_zero, List.set_cons_succ]
    refine Ord.step (i := 18) rfl (by kernel_rfl) (by rfl) ?_
    intro K HK
    refine wp_append_lies _ (.tmp 54) (.tmp 70) 116 rfl 0 36 i0 _ 5 _ Tryz.underlying116 hi0 hz0 hz1 hz2 rfl (by decide) (.slice none 0 0) 0 [] rfl ⟨rfl, .inl ⟨rfl, rfl⟩⟩ ⟨w2.heap.size, 0, none⟩ 3 3 [.int .i64 d.val.kind, .bool d.val.bool, .float .f64 d.val.num, .string d.val.str, .int .i64 d.val.id, .int .i64 d.get.kind, .bool d.get.bool, .float .f64 d.get.num, .string d.get.str, .int .i64 d.get.id, .int .i64 d.set.kind, .bool d.set.bool, .float .f64 d.set.num, .string d.set.str, .int .i64 d.set.id] rfl rfl (World.news_of_block (cs := ([.int .i64 d.val.kind, .bool d.val.bool, .float .f64 d.val.num, .string d.val.str, .int .i64 d.val.id, .int .i64 d.get.kind, .bool d.get.bool, .float .f64 d.get.num, .string d.get.str, .int .i64 d.get.id, .int .i64 d.set.kind, .bool d.set.bool, .float .f64 d.set.num, .string d.set.str, .int .i64 d.set.id]).toArray) (t := 36) (fr := (0, 0)) (heap_alloc_new w2 _)) (by simp [Value.oneCell']) (by decide) (by decide) (by decide) (Nat.zero_le _) _ rfl ?_
    intro gg cp w4 hown4 hgrow4 hat4 hlt4
    have hb4 := below_grown0 hgrow4
    have hA4 := (show Blk (w2.alloc _).drew _ _ _ from hA2.alloc _).next hb4
    have hD4 := (show Blk (w2.alloc _).drew _ _ _ from hD2.alloc _).next hb4
    refine HK.out _ _ ?_
    clear HK
    refine Ord.kp ?_ ?_
    · exact ⟨⟨hA4.cellA 1, hA4.cellA 2⟩, hD4⟩
    clear hS
    intro hS
    try simp only [List.setIfInBounds_toArray, List.set_cons_zero, List.set_cons_succ]
    refine Ord.tp 19 72 rfl rfl ?_
    refine Ord.step (i := 20) rfl (by kernel_rfl) (by rfl) ?_
    intro K HK
    have hcA4 := hA4.cellA
    have hfA4 := hA4.frozen
    go_simp
    refine HK.out _ _ ?_
    clear HK
    refine ⟨Ord.np (by kernel_rfl), ?_⟩
    try simp only [List.setIfInBounds_toArray, List.set_cons_zero, List.set_cons_succ]
    refine Ord.done (by kernel_rfl) ?_ _
    have h5 := only_setCell (o := 2) (v := .slice (some ⟨gg, 0, none⟩) 3 cp) hA4
    have hW4 : Below w.heap.size w w4 := more hL2 (((Below.refl _ w2).alloc (Nat.le_refl _) _).drew.trans (hb4.mono (by simp)))
    have hgl : w2.heap.size ≤ gg := by rcases hat4 with h | h; cases h; simp at h; omega
    have hlt2 := hA2.lt
    have hdb2 := hD2.lt
    have h0 : WrSt n0 w (w4.setCell ⟨w.heap.size, 2, none⟩ (.slice (some ⟨gg, 0, none⟩) 3 cp)) hb ov ob tp cap fuel deep kd ext L d kb db gg cp := by
      have hbl : Below w.heap.size w (w4.setCell ⟨w.heap.size, 2, none⟩ (.slice (some ⟨gg, 0, none⟩) 3 cp)) := below_only hW4 h5.2 (by simp)
      refine ⟨h5.1, hD4.only h5.2 (by have := hD.lt; simp; omega), ?_, s.below hbl, hbl⟩
      obtain ⟨C, hC, hT⟩ := row_block hown4
      exact ⟨C, hC.only h5.2 (by simp; omega), hT⟩
    clear hD4 hA4 h5 hgrow4 hown4 hat4 hb4 hlt4 hS hA2 hcA2 hD2 hD1 hA1 hD0 hK0 hA
    generalize w4.setCell ⟨w.heap.size, 2, none⟩ (.slice (some ⟨gg, 0, none⟩) 3 cp) = w5 at h0 ⊢
    have hcA5 := h0.a.cellA
    go_wp2
    clear hcA5
    refine wp_loop_rounds 4 ?_
    rw [rounds_succ]
    go_wp2_with (first | ((with_reducible show wpList _ _ _ (⟨_, .load 36 (.tmp 78), _, _, _, _⟩ :: _) _ _); refine wpList_load_part rfl 36 _ rfl gg 0 rfl h0.val Tryz.row36 Tryz.size36 ?_) | ((with_reducible show wpList _ _ _ (⟨_, .alloc 36, _, _, _, _⟩ :: _) _ _); refine wpList_alloc_blk rfl 36 rfl (vArr Dc.v0) zero36 ?_; intro u1 hB1 hLu1 hsu1; have hv1 := h0.next hLu1) | ((with_reducible show wpList _ _ _ (⟨_, .store 36 _ _, _, _, _, _⟩ :: _) _ _); refine wpList_store_blk rfl 36 _ _ rfl _ (vArr d.val) _ 36 rfl rfl hB1 Tryz.size36 rfl (vCells_one d.val) ?_; intro x1 hX1 hO1; have hx1 := h0.next (below_only hLu1 hO1 (by simp))) | ((with_reducible show wpList _ _ _ (⟨_, .load 36 (.tmp 10), _, _, _, _⟩ :: _) _ _); refine wpList_load_blk rfl 36 _ rfl _ rfl hX1 Tryz.row36 Tryz.size36 ?_) | (go_at_call 92; refine (cval hx1.s).mono ?_; rintro e y1 ⟨rfl, hy1⟩; have h1 := hx1.next hy1))
    rw [rounds_succ]
    go_wp2_with (first | ((with_reducible show wpList _ _ _ (⟨_, .load 36 (.tmp 78), _, _, _, _⟩ :: _) _ _); refine wpList_load_part rfl 36 _ rfl gg 5 rfl h1.get Tryz.row36 Tryz.size36 ?_) | ((with_reducible show wpList _ _ _ (⟨_, .alloc 36, _, _, _, _⟩ :: _) _ _); refine wpList_alloc_blk rfl 36 rfl (vArr Dc.v0) zero36 ?_; intro u2 hB2 hLu2 hsu2; have hv2 := h1.next hLu2) | ((with_reducible show wpList _ _ _ (⟨_, .store 36 _ _, _, _, _, _⟩ :: _) _ _); refine wpList_store_blk rfl 36 _ _ rfl _ (vArr d.get) _ 36 rfl rfl hB2 Tryz.size36 rfl (vCells_one d.get) ?_; intro x2 hX2 hO2; have hx2 := h1.next (below_only hLu2 hO2 (by simp))) | ((with_reducible show wpList _ _ _ (⟨_, .load 36 (.tmp 10), _, _, _, _⟩ :: _) _ _); refine wpList_load_blk rfl 36 _ rfl _ rfl hX2 Tryz.row36 Tryz.size36 ?_) | (go_at_call 92; refine (cget hx2.s).mono ?_; rintro e y2 ⟨rfl, hy2⟩; have h2 := hx2.next hy2))
    rw [rounds_succ]
    go_wp2_with (first | ((with_reducible show wpList _ _ _ (⟨_, .load 36 (.tmp 78), _, _, _, _⟩ :: _) _ _); refine wpList_load_part rfl 36 _ rfl gg 10 rfl h2.set Tryz.row36 Tryz.size36 ?_) | ((with_reducible show wpList _ _ _ (⟨_, .alloc 36, _, _, _, _⟩ :: _) _ _); refine wpList_alloc_blk rfl 36 rfl (vArr Dc.v0) zero36 ?_; intro u3 hB3 hLu3 hsu3; have hv3 := h2.next hLu3) | ((with_reducible show wpList _ _ _ (⟨_, .store 36 _ _, _, _, _, _⟩ :: _) _ _); refine wpList_store_blk rfl 36 _ _ rfl _ (vArr d.set) _ 36 rfl rfl hB3 Tryz.size36 rfl (vCells_one d.set) ?_; intro x3 hX3 hO3; have hx3 := h2.next (below_only hLu3 hO3 (by simp))) | ((with_reducible show wpList _ _ _ (⟨_, .load 36 (.tmp 10), _, _, _, _⟩ :: _) _ _); refine wpList_load_blk rfl 36 _ rfl _ rfl hX3 Tryz.row36 Tryz.size36 ?_) | (go_at_call 92; refine (cset hx3.s).mono ?_; rintro e y3 ⟨rfl, hy3⟩; have h3 := hx3.next hy3))
    rw [rounds_succ]
    have hcA5 := h3.a.cellA
    go_wp2_with (first | ((with_reducible show wpList _ _ _ (⟨_, .load 43 _, _, _, _, _⟩ :: _) _ _); refine wpList_load_blkW (by rfl) 43 _ rfl db rfl h3.dd Tryz.row43 Tryz.size43 ?_) | (go_at_call 105; refine (cC h3.s).mono ?_; rintro e y4 ⟨rfl, hy4⟩))
    go_ret
    exact ⟨rfl, more h3.b hy4⟩



end Go.Proofs.YtoalboilghgalaaGreatDoor

/- The heap: wrong, of a call with a key and a descriptor, all ways. -/
namespace Go.Proofs.YtoalboilghgalaaGreatDoor
open Go.RowKit
open Go.Proofs.Dc (V Ds Ky)
attribute [local go_sem] run_store_float

theorem wrong_badkey {n0 : Nat} {w : World} {hb : Nat} {ov : Value} {ob : Nat} {tp : Option Addr} {cap fuel deep : Int} {kd : Kd} {ext : Bool} {L : List (Ky × Ds)} (s : StX n0 w hb ov ob tp cap fuel deep kd ext L) (k : Ky) (d : Ds) (hd : Nums d) (kb db : Nat) (hK : Blk w kb (kArr k) 40) (hD : Blk w db (dArr d) 43) (hg : kgood k = false) : Calls Tryz.prog 55 #[.pointer (some ⟨hb, 0, none⟩), .int .i64 1, .agg #[.pointer (some ⟨kb, 0, none⟩), .pointer (some ⟨db, 0, none⟩), .slice none 0 0]] w fun e w' => e = .returned (.int .i64 5) ∧ Below w.heap.size w w' := by
  have cK := fun W (h : Below w.heap.size w W) => keycheck_any k W (s.tabs.below h)
  simp only [hg, Bool.false_eq_true, if_false] at cK
  clear hg
  go_enter Tryz.func55, Tryz.ntmps55
  go_wp2_with (first | ((with_reducible show wpList _ _ _ (⟨_, .box 118 _, _, _, _, _⟩ :: _) _ _); refine wpList_box_blk rfl 118 _ rfl (aArr (some ⟨kb, 0, none⟩) (some ⟨db, 0, none⟩) (.slice none 0 0)) rfl ?_; intro w0 hA hL hs; have hcA := hA.cellA; have s0 := s.below hL; have hK0 := hK.next hL; have hcK := hK0.cellK; have hD0 := hD.next hL; have hLK := hL) | (go_at_call 83; refine (has_one s0).mono ?_; rintro e w' ⟨rfl, rfl⟩) | (go_at_call 13; refine (cK _ hLK).mono ?_; rintro e w1 ⟨rfl, hb1⟩; have hA1 := hA.next hb1; have hcA1 := hA1.cellA; clear hcA hcK; have hD1 := hD0.next hb1; have hL1 := more hL hb1))
  go_ret
  exact ⟨rfl, hL1⟩

theorem wrong_baddesc {n0 : Nat} {w : World} {hb : Nat} {ov : Value} {ob : Nat} {tp : Option Addr} {cap fuel deep : Int} {kd : Kd} {ext : Bool} {L : List (Ky × Ds)} (s : StX n0 w hb ov ob tp cap fuel deep kd ext L) (k : Ky) (d : Ds) (hd : Nums d) (kb db : Nat) (hK : Blk w kb (kArr k) 40) (hD : Blk w db (dArr d) 43) (hg : kgood k = true) (hkd : Dc.kindB uvalid d = false) : Calls Tryz.prog 55 #[.pointer (some ⟨hb, 0, none⟩), .int .i64 1, .agg #[.pointer (some ⟨kb, 0, none⟩), .pointer (some ⟨db, 0, none⟩), .slice none 0 0]] w fun e w' => e = .returned (.int .i64 5) ∧ Below w.heap.size w w' := by
  have cK := fun W (h : Below w.heap.size w W) => keycheck_any k W (s.tabs.below h)
  have cD := fun W (h : Below w.heap.size w W) => dcheck_any d W (s.tabs.below h) hd
  simp only [hg, if_true] at cK
  simp only [hkd, Bool.false_eq_true, if_false] at cD
  clear hg hkd
  go_enter Tryz.func55, Tryz.ntmps55
  go_wp2_with (first | ((with_reducible show wpList _ _ _ (⟨_, .box 118 _, _, _, _, _⟩ :: _) _ _); refine wpList_box_blk rfl 118 _ rfl (aArr (some ⟨kb, 0, none⟩) (some ⟨db, 0, none⟩) (.slice none 0 0)) rfl ?_; intro w0 hA hL hs; have hcA := hA.cellA; have s0 := s.below hL; have hK0 := hK.next hL; have hcK := hK0.cellK; have hD0 := hD.next hL; have hLK := hL) | (go_at_call 83; refine (has_one s0).mono ?_; rintro e w' ⟨rfl, rfl⟩) | (go_at_call 13; refine (cK _ hLK).mono ?_; rintro e w1 ⟨rfl, hb1⟩; have hA1 := hA.next hb1; have hcA1 := hA1.cellA; clear hcA hcK; have hD1 := hD0.next hb1; have hL1 := more hL hb1) | ((with_reducible show wpList _ _ _ (⟨_, .load 43 _, _, _, _, _⟩ :: _) _ _); refine wpList_load_blkW (by rfl) 43 _ rfl db rfl hD1 Tryz.row43 Tryz.size43 ?_) | (go_at_call 104; refine (cD _ hL1).mono ?_; rintro e w2 ⟨rfl, hb2⟩; have hL2 := more hL1 hb2))
  go_ret
  exact ⟨rfl, hL2⟩

/-- what wrong says of a key and a descriptor -/
def wrongD (k : Ky) (d : Ds) : Int := if kgood k = false then 5 else if Dc.kindB uvalid d = false then 5 else wrongN d

theorem wrong_any {n0 : Nat} {w : World} {hb : Nat} {ov : Value} {ob : Nat} {tp : Option Addr} {cap fuel deep : Int} {kd : Kd} {ext : Bool} {L : List (Ky × Ds)} (s : StX n0 w hb ov ob tp cap fuel deep kd ext L) (hk : KdOk kd) (k : Ky) (d : Ds) (hd : Nums d) (kb db : Nat) (hK : Blk w kb (kArr k) 40) (hD : Blk w db (dArr d) 43) : Calls Tryz.prog 55 #[.pointer (some ⟨hb, 0, none⟩), .int .i64 1, .agg #[.pointer (some ⟨kb, 0, none⟩), .pointer (some ⟨db, 0, none⟩), .slice none 0 0]] w fun e w' => e = .returned (.int .i64 (wrongD k d)) ∧ Below w.heap.size w w' := by
  unfold wrongD
  cases hg : kgood k
  · exact wrong_badkey s k d hd kb db hK hD hg
  · cases hkd : Dc.kindB uvalid d
    · exact wrong_baddesc s k d hd kb db hK hD hg hkd
    · simp only [Bool.true_eq_false, if_false]
      unfold wrongN
      cases h1 : lostV d.val
      · cases h2 : lostV d.get
        · cases h3 : lostV d.set
          · exact wrong_calls s hk k d hd kb db hK hD hg hkd h1 h2 h3
          · exact wrong_lost3 s hk k d hd kb db hK hD hg hkd h1 h2 h3
        · exact wrong_lost2 s hk k d hd kb db hK hD hg hkd h1 h2
      · exact wrong_lost1 s hk k d hd kb db hK hD hg hkd h1

end Go.Proofs.YtoalboilghgalaaGreatDoor

/- The door, of a heap with one object: within, over whatever closure. -/
namespace Go.Proofs.YtoalboilghgalaaGreatDoor
open Go.RowKit
open Go.Proofs.Dc (V Ds Ky)
attribute [local go_sem] run_store_float

/-- a property that an object may have -/
def wArr (p : Ds × Bool) : Array Value := #[.int .i64 p.1.val.kind, .bool p.1.val.bool, .float .f64 p.1.val.num, .string p.1.val.str, .int .i64 p.1.val.id, .int .i64 p.1.get.kind, .bool p.1.get.bool, .float .f64 p.1.get.num, .string p.1.get.str, .int .i64 p.1.get.id, .int .i64 p.1.set.kind, .bool p.1.set.bool, .float .f64 p.1.set.num, .string p.1.set.str, .int .i64 p.1.set.id, .int .i64 p.1.w, .int .i64 p.1.e, .int .i64 p.1.c, .bool p.2]
theorem wCells_one (p : Ds × Bool) : (wArr p).all (·.oneCell') = true := by simp [wArr, Value.oneCell']
theorem vArr_one (v : V) : (vArr v).all (·.oneCell') = true := by simp [vArr, Value.oneCell']
theorem zero192 (w : World) : (zeroValue 192).run Tryz.prog w = .ok (.agg (wArr (Dc.d0, false))) w := by kernel_rfl
theorem Tryz.row192 : ∃ d, Tryz.prog.underlying 192 = some d ∧ d.isRow = true := ⟨_, Tryz.underlying192, rfl⟩
theorem Tryz.size192 : (Tryz.prog.info? 192).map (·.size) = some 19 := by kernel_rfl

/-- there is fuel, room for a call more, and for a property more -/
def Can (fuel deep : Int) (kd : Kd) : Prop := 0 < fuel ∧ fuel ≤ 9223372036854775807 ∧ kd.b < 1000000 ∧ 0 ≤ deep ∧ deep < kd.dp ∧ kd.dp ≤ 1000
theorem enter_out {n0 : Nat} {w : World} {hb : Nat} {ov : Value} {ob : Nat} {tp : Option Addr} {cap deep : Int} {kd : Kd} {ext : Bool} {L : List (Ky × Ds)} (s : StX n0 w hb ov ob tp cap 0 deep kd ext L) (hd : 0 ≤ deep ∧ deep < kd.dp ∧ kd.dp ≤ 1000) : Calls Tryz.prog 141 #[.pointer (some ⟨hb, 0, none⟩)] w fun e w' => e = .returned (errV 1) ∧ w' = w := by
  refine (enter_any hb cap 0 kd.dp deep ov w s.h (by omega) (by omega)).mono ?_
  rintro e w' (⟨_, h1, h2⟩ | ⟨h, _⟩)
  · exact ⟨h1, h2⟩
  · exact absurd rfl h
theorem enter_in {n0 : Nat} {w : World} {hb : Nat} {ov : Value} {ob : Nat} {tp : Option Addr} {cap fuel deep : Int} {kd : Kd} {ext : Bool} {L : List (Ky × Ds)} (s : StX n0 w hb ov ob tp cap fuel deep kd ext L) (hf : Can fuel deep kd) : Calls Tryz.prog 141 #[.pointer (some ⟨hb, 0, none⟩)] w fun e w' => e = .returned .nilIface ∧ StX n0 w' hb ov ob tp cap (fuel - 1) (deep + 1) kd ext L ∧ Keeps n0 w w' := by
  obtain ⟨h1, h2, h3, h4, h5, h6⟩ := hf
  refine (enter_any hb cap fuel kd.dp deep ov w s.h (by omega) (by omega)).mono ?_
  rintro e w' (⟨h, _⟩ | ⟨_, h1, h2, h3⟩)
  · omega
  · exact ⟨h1, s.heap h2 h3 rfl (by omega) (by have := s.bd; omega)⟩
theorem leave_st {n0 : Nat} {w : World} {hb : Nat} {ov : Value} {ob : Nat} {tp : Option Addr} {cap fuel deep : Int} {kd : Kd} {ext : Bool} {L : List (Ky × Ds)} (s : StX n0 w hb ov ob tp cap fuel (deep + 1) kd.up ext L) (hd : 0 ≤ deep ∧ deep < 1000) (u : FrameMode) : CallsD Tryz.prog 142 #[.pointer (some ⟨hb, 0, none⟩)] u w fun e u' w' => u' = u ∧ (e = .returned (.tuple #[]) ∧ StX n0 w' hb ov ob tp cap fuel deep kd ext L ∧ Keeps n0 w w') := by
  refine (leave_d hb cap fuel kd.dp (deep + 1) ov u w s.h (by omega)).mono ?_
  rintro e u' w' ⟨h0, h1, h2, h3⟩
  rw [show deep + 1 - 1 = deep by omega] at h2
  exact ⟨h0, h1, s.heap h2 h3 (kd' := kd) rfl (by show kd.b + 1 - fuel - (deep + 1) ≤ _; omega) (by have h1 : kd.b + 1 ≤ 1000000 ∧ _ := s.bd; omega)⟩

/-- what is asked of a closure, what within leaves: a first result of a kind, no error -/
def Gives {α : Type} (enc : α → Value) (Post : α → World → Prop) (n0 : Nat) (w : World) (hb : Nat) (ov : Value) (ob : Nat) (cap fuel deep : Int) (kd : Kd) (ext : Bool) (L : List (Ky × Ds)) (e : Ending) (w' : World) : Prop :=
  ∃ x tp, e = .returned (.tuple #[enc x, .nilIface]) ∧ StX n0 w' hb ov ob tp cap fuel deep kd ext L ∧ Keeps n0 w w' ∧ Post x w'
theorem Gives.up {α : Type} {enc : α → Value} {Post : α → World → Prop} {n0 : Nat} {w : World} {hb : Nat} {ov : Value} {ob : Nat} {cap fuel deep : Int} {kd : Kd} {ext : Bool} {L : List (Ky × Ds)} {e : Ending} {w' : World} (hb1 : kd.b < 1000000)
    (h : Gives enc Post n0 w hb ov ob cap fuel deep kd ext L e w') : Gives enc Post n0 w hb ov ob cap fuel deep kd.up ext L e w' := by
  obtain ⟨x, tp, h1, h2, h3⟩ := h
  exact ⟨x, tp, h1, h2.up hb1, h3⟩

theorem wbool_out {n0 : Nat} {w : World} {hb : Nat} {ov : Value} {ob : Nat} {tp : Option Addr} {cap deep : Int} {kd : Kd} {ext : Bool} {L : List (Ky × Ds)} (s : StX n0 w hb ov ob tp cap 0 deep kd ext L) (hd : 0 ≤ deep ∧ deep < kd.dp ∧ kd.dp ≤ 1000) (fn : Value) : Calls Tryz.prog 106 #[.pointer (some ⟨hb, 0, none⟩), fn] w fun e w' => e = .returned (.tuple #[.bool false, errV 1]) ∧ w' = w := by
  have cE := enter_out s hd
  clear s hd
  go_enter_defers Tryz.func106, Tryz.ntmps106
  go_wp2_with fail
  refine cE.mono ?_
  rintro e w1 ⟨rfl, rfl⟩
  go_wp2
  exact ⟨_, results_tmp2 rfl _ _ _, rfl, rfl⟩

theorem wbool_in {n0 : Nat} {w : World} {hb : Nat} {ov : Value} {ob : Nat} {tp : Option Addr} {cap fuel deep : Int} {kd : Kd} {ext ext' : Bool} {L L' : List (Ky × Ds)} (s : StX n0 w hb ov ob tp cap fuel deep kd ext L) (hf : Can fuel deep kd) (g : FuncId) (lb : Array Value) (eg : ∀ args w, (callFunc g args).run Tryz.prog w = .ok (.enter g args) w) (Post : Bool → World → Prop) (hP : ∀ x W W', Post x W → Keeps n0 W W' → Post x W')
    (cG : ∀ W1, StX n0 W1 hb ov ob tp cap (fuel - 1) (deep + 1) kd ext L → Keeps n0 w W1 → Calls Tryz.prog g lb W1 (Gives (α := Bool) (fun x => .bool x) Post n0 W1 hb ov ob cap (fuel - 1) (deep + 1) kd.up ext' L')) :
    Calls Tryz.prog 106 #[.pointer (some ⟨hb, 0, none⟩), .func (.func g) #[] lb] w (Gives (α := Bool) (fun x => .bool x) Post n0 w hb ov ob cap (fuel - 1) deep kd ext' L') := by
  have cE := enter_in s hf
  have HD := Lib.hid (show 0 ≤ deep ∧ deep < 1000 from ⟨hf.2.2.2.1, by have := hf.2.2.2.2; omega⟩)
  clear s hf
  go_enter_defers Tryz.func106, Tryz.ntmps106
  go_wp2_with fail
  refine cE.mono ?_
  rintro e w1 ⟨rfl, s1, k1⟩
  have cG1 := cG w1 s1 k1
  clear cE cG
  go_wp2_with (first | (go_at_fn g; refine cG1.mono ?_; rintro e w2 ⟨x, tp2, rfl, s2, k2, p2⟩))
  refine leaves_cons (f := 142) (args := #[.pointer (some ⟨hb, 0, none⟩)]) (by simp) (by simp [go_sem]) ?_
  refine (leave_st s2 HD.out .returning).mono ?_
  rintro e u' w3 ⟨rfl, rfl, s3, k3⟩
  exact ⟨_, results_tmp2 rfl _ _ _, x, tp2, rfl, s3, (k1.trans k2).trans k3, hP _ _ _ p2 k3⟩

theorem wkeys_out {n0 : Nat} {w : World} {hb : Nat} {ov : Value} {ob : Nat} {tp : Option Addr} {cap deep : Int} {kd : Kd} {ext : Bool} {L : List (Ky × Ds)} (s : StX n0 w hb ov ob tp cap 0 deep kd ext L) (hd : 0 ≤ deep ∧ deep < kd.dp ∧ kd.dp ≤ 1000) (fn : Value) : Calls Tryz.prog 112 #[.pointer (some ⟨hb, 0, none⟩), fn] w fun e w' => e = .returned (.tuple #[.slice none 0 0, errV 1]) ∧ w' = w := by
  have cE := enter_out s hd
  clear s hd
  go_enter_defers Tryz.func112, Tryz.ntmps112
  go_wp2_with fail
  refine cE.mono ?_
  rintro e w1 ⟨rfl, rfl⟩
  go_wp2
  exact ⟨_, results_tmp2 rfl _ _ _, rfl, rfl⟩

theorem wkeys_in {n0 : Nat} {w : World} {hb : Nat} {ov : Value} {ob : Nat} {tp : Option Addr} {cap fuel deep : Int} {kd : Kd} {ext ext' : Bool} {L L' : List (Ky × Ds)} (s : StX n0 w hb ov ob tp cap fuel deep kd ext L) (hf : Can fuel deep kd) (g : FuncId) (lb : Array Value) (eg : ∀ args w, (callFunc g args).run Tryz.prog w = .ok (.enter g args) w) (Post : Value → World → Prop) (hP : ∀ x W W', Post x W → Keeps n0 W W' → Post x W')
    (cG : ∀ W1, StX n0 W1 hb ov ob tp cap (fuel - 1) (deep + 1) kd ext L → Keeps n0 w W1 → Calls Tryz.prog g lb W1 (Gives (α := Value) (fun x => x) Post n0 W1 hb ov ob cap (fuel - 1) (deep + 1) kd.up ext' L')) :
    Calls Tryz.prog 112 #[.pointer (some ⟨hb, 0, none⟩), .func (.func g) #[] lb] w (Gives (α := Value) (fun x => x) Post n0 w hb ov ob cap (fuel - 1) deep kd ext' L') := by
  have cE := enter_in s hf
  have HD := Lib.hid (show 0 ≤ deep ∧ deep < 1000 from ⟨hf.2.2.2.1, by have := hf.2.2.2.2; omega⟩)
  clear s hf
  go_enter_defers Tryz.func112, Tryz.ntmps112
  go_wp2_with fail
  refine cE.mono ?_
  rintro e w1 ⟨rfl, s1, k1⟩
  have cG1 := cG w1 s1 k1
  clear cE cG
  go_wp2_with (first | (go_at_fn g; refine cG1.mono ?_; rintro e w2 ⟨x, tp2, rfl, s2, k2, p2⟩))
  refine leaves_cons (f := 142) (args := #[.pointer (some ⟨hb, 0, none⟩)]) (by simp) (by simp [go_sem]) ?_
  refine (leave_st s2 HD.out .returning).mono ?_
  rintro e u' w3 ⟨rfl, rfl, s3, k3⟩
  exact ⟨_, results_tmp2 rfl _ _ _, x, tp2, rfl, s3, (k1.trans k2).trans k3, hP _ _ _ p2 k3⟩

theorem wval_out {n0 : Nat} {w : World} {hb : Nat} {ov : Value} {ob : Nat} {tp : Option Addr} {cap deep : Int} {kd : Kd} {ext : Bool} {L : List (Ky × Ds)} (s : StX n0 w hb ov ob tp cap 0 deep kd ext L) (hd : 0 ≤ deep ∧ deep < kd.dp ∧ kd.dp ≤ 1000) (fn : Value) : Calls Tryz.prog 114 #[.pointer (some ⟨hb, 0, none⟩), fn] w fun e w' => e = .returned (.tuple #[.agg (vArr Dc.v0), errV 1]) ∧ Below w.heap.size w w' := by
  go_enter_defers Tryz.func114, Tryz.ntmps114
  go_wp2_with (first | ((with_reducible show wpList _ _ _ (⟨some 4, .alloc 36, _, _, _, _⟩ :: _) _ _); refine wpList_alloc_blk rfl 36 rfl (vArr Dc.v0) zero36 ?_; intro w0 hR hL0 hs0; clear hs0; have s0 := s.below hL0; have hlt := hR.lt) | (go_at_call 141; refine (enter_out s0 hd).mono ?_; rintro e w1 ⟨rfl, rfl⟩) | ((with_reducible show wpList _ _ _ (⟨some 7, .alloc 36, _, _, _, _⟩ :: _) _ _); refine wpList_alloc_blk rfl 36 rfl (vArr Dc.v0) zero36 ?_; intro wA hBA hLA hsA; clear hsA; have hR1 := hR.next hLA) | ((with_reducible show wpList _ _ _ (⟨_, .load 36 (.tmp 7), _, _, _, _⟩ :: _) _ _); refine wpList_load_blk rfl 36 _ rfl _ rfl hBA Tryz.row36 Tryz.size36 ?_) | ((with_reducible show wpList _ _ _ (⟨_, .store 36 (.tmp 4) _, _, _, _, _⟩ :: _) _ _); refine wpList_store_blk rfl 36 _ _ rfl w.heap.size (vArr Dc.v0) (vArr Dc.v0) 36 rfl rfl hR1 Tryz.size36 rfl (vArr_one Dc.v0) ?_; intro wC hBC hOC))
  exact ⟨_, results_cell_tmp Tryz.results114 rfl hBC Tryz.row36 Tryz.size36, rfl, below_only (more hL0 hLA) hOC (by simp)⟩

theorem wval_in {n0 : Nat} {w : World} {hb : Nat} {ov : Value} {ob : Nat} {tp : Option Addr} {cap fuel deep : Int} {kd : Kd} {ext ext' : Bool} {L L' : List (Ky × Ds)} (s : StX n0 w hb ov ob tp cap fuel deep kd ext L) (hf : Can fuel deep kd) (g : FuncId) (lb : Array Value) (eg : ∀ args w, (callFunc g args).run Tryz.prog w = .ok (.enter g args) w) (Post : V → Prop)
    (cG : ∀ W1, StX n0 W1 hb ov ob tp cap (fuel - 1) (deep + 1) kd ext L → Keeps n0 w W1 → Calls Tryz.prog g lb W1 (Gives (α := V) (fun x => .agg (vArr x)) (fun x _ => Post x) n0 W1 hb ov ob cap (fuel - 1) (deep + 1) kd.up ext' L')) :
    Calls Tryz.prog 114 #[.pointer (some ⟨hb, 0, none⟩), .func (.func g) #[] lb] w (Gives (α := V) (fun x => .agg (vArr x)) (fun x _ => Post x) n0 w hb ov ob cap (fuel - 1) deep kd ext' L') := by
  have HD := Lib.hid (show 0 ≤ deep ∧ deep < 1000 from ⟨hf.2.2.2.1, by have := hf.2.2.2.2; omega⟩)
  have HF := Lib.hid hf
  clear hf
  go_enter_defers Tryz.func114, Tryz.ntmps114
  go_wp2_with (first | ((with_reducible show wpList _ _ _ (⟨some 4, .alloc 36, _, _, _, _⟩ :: _) _ _); refine wpList_alloc_blk rfl 36 rfl (vArr Dc.v0) zero36 ?_; intro w0 hR hL0 hs0; clear hs0; have s0 := s.below hL0; have hlt := hR.lt; have cur := (Bag.start s).push hL0 hR (Nat.le_refl _) rfl) | (go_at_call 141; refine (enter_in s0 HF.out).mono ?_; rintro e w1 ⟨rfl, s1, k1⟩; have cur1 := cur.go s1 k1; have cG1 := cG w1 s1 cur1.k; clear cG) | (go_at_fn g; refine cG1.mono ?_; rintro e w2 ⟨x, tp2, rfl, s2, k2, p2⟩; have cur2 := cur1.go s2 k2; have hle2 : w.heap.size ≤ w2.heap.size := Nat.le_of_lt (cur2.lt 0 rfl)) | ((with_reducible show wpList _ _ _ (⟨some 8, .alloc 36, _, _, _, _⟩ :: _) _ _); refine wpList_alloc_blk rfl 36 rfl (vArr Dc.v0) zero36 ?_; intro wA hBA hLA hsA; clear hsA; have cur3 := cur2.push hLA hBA (Nat.le_refl _) rfl) | ((with_reducible show wpList _ _ _ (⟨_, .store 36 (.tmp 8) _, _, _, _, _⟩ :: _) _ _); refine wpList_store_blk rfl 36 _ _ rfl _ (vArr x) _ 36 rfl rfl hBA Tryz.size36 rfl (vArr_one x) ?_; intro wB hBB hOB; have cur4 := cur3.set 0 rfl hOB hBB hle2) | ((with_reducible show wpList _ _ _ (⟨_, .load 36 (.tmp 8), _, _, _, _⟩ :: _) _ _); refine wpList_load_blk rfl 36 _ rfl _ rfl hBB Tryz.row36 Tryz.size36 ?_) | ((with_reducible show wpList _ _ _ (⟨_, .store 36 (.tmp 4) _, _, _, _, _⟩ :: _) _ _); refine wpList_store_blk rfl 36 _ _ rfl w.heap.size (vArr x) (vArr Dc.v0) 36 rfl rfl (cur4.blk 1 rfl) Tryz.size36 rfl (vArr_one x) ?_; intro wC hBC hOC; have cur5 := cur4.set 1 rfl hOC hBC (Nat.le_refl _)))
  refine leaves_cons (f := 142) (args := #[.pointer (some ⟨hb, 0, none⟩)]) (by simp) (by simp [go_sem]) ?_
  refine (leave_st cur5.s HD.out .returning).mono ?_
  rintro e u' w3 ⟨rfl, rfl, s3, k3⟩
  have cur6 := cur5.go s3 k3
  exact ⟨_, results_cell_tmp Tryz.results114 rfl (cur6.blk 1 rfl) Tryz.row36 Tryz.size36, x, tp2, rfl, s3, cur6.k, p2⟩

theorem wown_out {n0 : Nat} {w : World} {hb : Nat} {ov : Value} {ob : Nat} {tp : Option Addr} {cap deep : Int} {kd : Kd} {ext : Bool} {L : List (Ky × Ds)} (s : StX n0 w hb ov ob tp cap 0 deep kd ext L) (hd : 0 ≤ deep ∧ deep < kd.dp ∧ kd.dp ≤ 1000) (fn : Value) : Calls Tryz.prog 117 #[.pointer (some ⟨hb, 0, none⟩), fn] w fun e w' => e = .returned (.tuple #[.agg (wArr (Dc.d0, false)), errV 1]) ∧ Below w.heap.size w w' := by
  go_enter_defers Tryz.func117, Tryz.ntmps117
  go_wp2_with (first | ((with_reducible show wpList _ _ _ (⟨some 4, .alloc 192, _, _, _, _⟩ :: _) _ _); refine wpList_alloc_blk rfl 192 rfl (wArr (Dc.d0, false)) zero192 ?_; intro w0 hR hL0 hs0; clear hs0; have s0 := s.below hL0; have hlt := hR.lt) | (go_at_call 141; refine (enter_out s0 hd).mono ?_; rintro e w1 ⟨rfl, rfl⟩) | ((with_reducible show wpList _ _ _ (⟨some 7, .alloc 192, _, _, _, _⟩ :: _) _ _); refine wpList_alloc_blk rfl 192 rfl (wArr (Dc.d0, false)) zero192 ?_; intro wA hBA hLA hsA; clear hsA; have hR1 := hR.next hLA) | ((with_reducible show wpList _ _ _ (⟨_, .load 192 (.tmp 7), _, _, _, _⟩ :: _) _ _); refine wpList_load_blk rfl 192 _ rfl _ rfl hBA Tryz.row192 Tryz.size192 ?_) | ((with_reducible show wpList _ _ _ (⟨_, .store 192 (.tmp 4) _, _, _, _, _⟩ :: _) _ _); refine wpList_store_blk rfl 192 _ _ rfl w.heap.size (wArr (Dc.d0, false)) (wArr (Dc.d0, false)) 192 rfl rfl hR1 Tryz.size192 rfl (wCells_one (Dc.d0, false)) ?_; intro wC hBC hOC))
  exact ⟨_, results_cell_tmp Tryz.results117 rfl hBC Tryz.row192 Tryz.size192, rfl, below_only (more hL0 hLA) hOC (by simp)⟩

theorem wown_in {n0 : Nat} {w : World} {hb : Nat} {ov : Value} {ob : Nat} {tp : Option Addr} {cap fuel deep : Int} {kd : Kd} {ext ext' : Bool} {L L' : List (Ky × Ds)} (s : StX n0 w hb ov ob tp cap fuel deep kd ext L) (hf : Can fuel deep kd) (g : FuncId) (lb : Array Value) (eg : ∀ args w, (callFunc g args).run Tryz.prog w = .ok (.enter g args) w) (Post : (Ds × Bool) → Prop)
    (cG : ∀ W1, StX n0 W1 hb ov ob tp cap (fuel - 1) (deep + 1) kd ext L → Keeps n0 w W1 → Calls Tryz.prog g lb W1 (Gives (α := (Ds × Bool)) (fun x => .agg (wArr x)) (fun x _ => Post x) n0 W1 hb ov ob cap (fuel - 1) (deep + 1) kd.up ext' L')) :
    Calls Tryz.prog 117 #[.pointer (some ⟨hb, 0, none⟩), .func (.func g) #[] lb] w (Gives (α := (Ds × Bool)) (fun x => .agg (wArr x)) (fun x _ => Post x) n0 w hb ov ob cap (fuel - 1) deep kd ext' L') := by
  have HD := Lib.hid (show 0 ≤ deep ∧ deep < 1000 from ⟨hf.2.2.2.1, by have := hf.2.2.2.2; omega⟩)
  have HF := Lib.hid hf
  clear hf
  go_enter_defers Tryz.func117, Tryz.ntmps117
  go_wp2_with (first | ((with_reducible show wpList _ _ _ (⟨some 4, .alloc 192, _, _, _, _⟩ :: _) _ _); refine wpList_alloc_blk rfl 192 rfl (wArr (Dc.d0, false)) zero192 ?_; intro w0 hR hL0 hs0; clear hs0; have s0 := s.below hL0; have hlt := hR.lt; have cur := (Bag.start s).push hL0 hR (Nat.le_refl _) rfl) | (go_at_call 141; refine (enter_in s0 HF.out).mono ?_; rintro e w1 ⟨rfl, s1, k1⟩; have cur1 := cur.go s1 k1; have cG1 := cG w1 s1 cur1.k; clear cG) | (go_at_fn g; refine cG1.mono ?_; rintro e w2 ⟨x, tp2, rfl, s2, k2, p2⟩; have cur2 := cur1.go s2 k2; have hle2 : w.heap.size ≤ w2.heap.size := Nat.le_of_lt (cur2.lt 0 rfl)) | ((with_reducible show wpList _ _ _ (⟨some 8, .alloc 192, _, _, _, _⟩ :: _) _ _); refine wpList_alloc_blk rfl 192 rfl (wArr (Dc.d0, false)) zero192 ?_; intro wA hBA hLA hsA; clear hsA; have cur3 := cur2.push hLA hBA (Nat.le_refl _) rfl) | ((with_reducible show wpList _ _ _ (⟨_, .store 192 (.tmp 8) _, _, _, _, _⟩ :: _) _ _); refine wpList_store_blk rfl 192 _ _ rfl _ (wArr x) _ 192 rfl rfl hBA Tryz.size192 rfl (wCells_one x) ?_; intro wB hBB hOB; have cur4 := cur3.set 0 rfl hOB hBB hle2) | ((with_reducible show wpList _ _ _ (⟨_, .load 192 (.tmp 8), _, _, _, _⟩ :: _) _ _); refine wpList_load_blk rfl 192 _ rfl _ rfl hBB Tryz.row192 Tryz.size192 ?_) | ((with_reducible show wpList _ _ _ (⟨_, .store 192 (.tmp 4) _, _, _, _, _⟩ :: _) _ _); refine wpList_store_blk rfl 192 _ _ rfl w.heap.size (wArr x) (wArr (Dc.d0, false)) 192 rfl rfl (cur4.blk 1 rfl) Tryz.size192 rfl (wCells_one x) ?_; intro wC hBC hOC; have cur5 := cur4.set 1 rfl hOC hBC (Nat.le_refl _)))
  refine leaves_cons (f := 142) (args := #[.pointer (some ⟨hb, 0, none⟩)]) (by simp) (by simp [go_sem]) ?_
  refine (leave_st cur5.s HD.out .returning).mono ?_
  rintro e u' w3 ⟨rfl, rfl, s3, k3⟩
  have cur6 := cur5.go s3 k3
  exact ⟨_, results_cell_tmp Tryz.results117 rfl (cur6.blk 1 rfl) Tryz.row192 Tryz.size192, x, tp2, rfl, s3, cur6.k, p2⟩


end Go.Proofs.YtoalboilghgalaaGreatDoor

/- Small functions: value.Null, Num, Str, Ref; Len. -/
namespace Go.Proofs.YtoalboilghgalaaGreatDoor
open Go.RowKit
open Go.Proofs.Dc (V Ds Ky)
attribute [local go_sem] run_store_float

attribute [local go_sem] Oper.semAt_some
theorem null11 (w : World) : Calls Tryz.prog 11 #[] w fun e w' => e = .returned (.agg (vArr vN)) ∧ Below w.heap.size w w' := by
  go_enter Tryz.func11, Tryz.ntmps11
  go_wp2_with (first | ((with_reducible show wpList _ _ _ (⟨some 0, .alloc 36, _, _, _, _⟩ :: _) _ _); refine wpList_alloc_blk rfl 36 rfl (vArr Dc.v0) zero36 ?_; intro w1 hR hL hs; clear hs) | (go_at_call 52; refine (null_open _).mono ?_; rintro e w2 ⟨rfl, hb2⟩; replace hR := hR.next hb2; replace hL := more hL hb2) | ((with_reducible show wpList _ _ _ (⟨_, .store 36 _ _, _, _, _, _⟩ :: _) _ _); refine wpList_store_blk rfl 36 _ _ rfl _ (vArr vN) _ 36 rfl rfl hR Tryz.size36 rfl (vArr_one _) ?_; intro w9 hB hO))
  exact bodyPost_ret (results_cell Tryz.results11 rfl hB Tryz.row36 Tryz.size36) rfl ⟨rfl, below_only hL hO (by simp)⟩
theorem num28 (x : Nat) (w : World) : Calls Tryz.prog 28 #[.float .f64 x] w fun e w' => e = .returned (.agg (vArr ⟨4, false, x, ByteArray.empty, 0⟩)) ∧ Below w.heap.size w w' := by
  go_enter Tryz.func28, Tryz.ntmps28
  go_wp2_with (first | ((with_reducible show wpList _ _ _ (⟨some 2, .alloc 36, _, _, _, _⟩ :: _) _ _); refine wpList_alloc_blk rfl 36 rfl (vArr Dc.v0) zero36 ?_; intro w1 hR hL hs; clear hs) | (go_at_call 73; refine (num_open x _).mono ?_; rintro e w2 ⟨rfl, hb2⟩; replace hR := hR.next hb2; replace hL := more hL hb2) | ((with_reducible show wpList _ _ _ (⟨_, .store 36 _ _, _, _, _, _⟩ :: _) _ _); refine wpList_store_blk rfl 36 _ _ rfl _ (vArr ⟨4, false, x, ByteArray.empty, 0⟩) _ 36 rfl rfl hR Tryz.size36 rfl (vArr_one _) ?_; intro w9 hB hO))
  exact bodyPost_ret (results_cell Tryz.results28 rfl hB Tryz.row36 Tryz.size36) rfl ⟨rfl, below_only hL hO (by simp)⟩
theorem made58 (v : V) (w : World) (hT : Tabs w) (hn : v.num < 2 ^ 64) (hg : Dc.good uvalid v = true) : Calls Tryz.prog 58 #[.agg (vArr v)] w fun e w' => e = .returned (.agg (vArr v)) ∧ Below w.heap.size w w' := by
  have HC : Hid (∀ W, Tabs W → Calls Tryz.prog 40 #[.agg (vArr v)] W fun e w' => e = .returned (.int .i64 0) ∧ Below W.heap.size W w') := Lib.hid fun W hT => by
    have := check_any v W hT hn
    rw [hg, if_pos rfl] at this
    exact this
  clear hg hn
  go_enter Tryz.func58, Tryz.ntmps58
  go_wp2_with (first | ((with_reducible show wpList _ _ _ (⟨_, .box 36 _, _, _, _, _⟩ :: _) _ _); refine wpList_box_blk rfl 36 _ rfl (vArr v) rfl ?_; intro w0 hV hL hs; clear hs) | ((with_reducible show wpList _ _ _ (⟨some 2, .alloc 36, _, _, _, _⟩ :: _) _ _); refine wpList_alloc_blk rfl 36 rfl (vArr Dc.v0) zero36 ?_; intro w1 hR hL1 hs; clear hs; have hge := hL.size; replace hV := hV.next hL1; replace hL := more hL hL1) | ((with_reducible show wpList _ _ _ (⟨_, .load 36 (.tmp 1), _, _, _, _⟩ :: _) _ _); refine wpList_load_blk rfl 36 _ rfl _ rfl hV Tryz.row36 Tryz.size36 ?_) | (go_at_call 40; refine (HC.out _ (hT.below hL)).mono ?_; rintro e w2 ⟨rfl, hb2⟩; replace hR := hR.next hb2; replace hV := hV.next hb2; replace hL := more hL hb2) | ((with_reducible show wpList _ _ _ (⟨_, .store 36 _ _, _, _, _, _⟩ :: _) _ _); refine wpList_store_blk rfl 36 _ _ rfl _ (vArr v) _ 36 rfl rfl hR Tryz.size36 rfl (vArr_one _) ?_; intro w9 hB hO))
  exact bodyPost_ret (results_cell Tryz.results58 rfl hB Tryz.row36 Tryz.size36) rfl ⟨rfl, below_only hL hO (by simpa using hge)⟩
theorem str24 (q : ByteArray) (hq : Dc.good uvalid ⟨5, false, 0, q, 0⟩ = true) (w : World) (hT0 : Tabs w) : Calls Tryz.prog 24 #[.string q] w fun e w' => e = .returned (.agg (vArr ⟨5, false, 0, q, 0⟩)) ∧ Below w.heap.size w w' := by
  have HT : Hid (∀ W, Below w.heap.size w W → Tabs W) := Lib.hid fun W h => hT0.below h
  clear hT0
  go_enter Tryz.func24, Tryz.ntmps24
  go_wp2_with (first | ((with_reducible show wpList _ _ _ (⟨some 2, .alloc 36, _, _, _, _⟩ :: _) _ _); refine wpList_alloc_blk rfl 36 rfl (vArr Dc.v0) zero36 ?_; intro w1 hR hL hs; clear hs) | (go_at_call 67; refine (str_open q _).mono ?_; rintro e w2 ⟨rfl, hb2⟩; replace hR := hR.next hb2; replace hL := more hL hb2) | (go_at_call 58; refine (made58 ⟨5, false, 0, q, 0⟩ _ (HT.out _ hL) (show (0 : Nat) < 2 ^ 64 by decide) hq).mono ?_; rintro e w2 ⟨rfl, hb2⟩; replace hR := hR.next hb2; replace hL := more hL hb2) | ((with_reducible show wpList _ _ _ (⟨_, .store 36 _ _, _, _, _, _⟩ :: _) _ _); refine wpList_store_blk rfl 36 _ _ rfl _ (vArr ⟨5, false, 0, q, 0⟩) _ 36 rfl rfl hR Tryz.size36 rfl (vArr_one _) ?_; intro w9 hB hO))
  exact bodyPost_ret (results_cell Tryz.results24 rfl hB Tryz.row36 Tryz.size36) rfl ⟨rfl, below_only hL hO (by simp)⟩
theorem ref16 (w : World) (hT0 : Tabs w) : Calls Tryz.prog 16 #[.int .i64 1] w fun e w' => e = .returned (.agg (vArr ⟨7, false, 0, ByteArray.empty, 1⟩)) ∧ Below w.heap.size w w' := by
  have HT : Hid (∀ W, Below w.heap.size w W → Tabs W) := Lib.hid fun W h => hT0.below h
  clear hT0
  go_enter Tryz.func16, Tryz.ntmps16
  go_wp2_with (first | ((with_reducible show wpList _ _ _ (⟨some 2, .alloc 36, _, _, _, _⟩ :: _) _ _); refine wpList_alloc_blk rfl 36 rfl (vArr Dc.v0) zero36 ?_; intro w1 hR hL hs; clear hs) | (go_at_call 59; refine (ref_open 1 _).mono ?_; rintro e w2 ⟨rfl, hb2⟩; replace hR := hR.next hb2; replace hL := more hL hb2) | (go_at_call 58; refine (made58 ⟨7, false, 0, ByteArray.empty, 1⟩ _ (HT.out _ hL) (by decide) (by kernel_rfl)).mono ?_; rintro e w2 ⟨rfl, hb2⟩; replace hR := hR.next hb2; replace hL := more hL hb2) | ((with_reducible show wpList _ _ _ (⟨_, .store 36 _ _, _, _, _, _⟩ :: _) _ _); refine wpList_store_blk rfl 36 _ _ rfl _ (vArr ⟨7, false, 0, ByteArray.empty, 1⟩) _ 36 rfl rfl hR Tryz.size36 rfl (vArr_one _) ?_; intro w9 hB hO))
  exact bodyPost_ret (results_cell Tryz.results16 rfl hB Tryz.row36 Tryz.size36) rfl ⟨rfl, below_only hL hO (by simp)⟩
theorem len42 {w : World} {hb : Nat} {c f dp de : Int} (hH : Blk w hb (hArr c f dp de (.slice none 0 0)) 102) : Calls Tryz.prog 42 #[.pointer (some ⟨hb, 0, none⟩)] w fun e w' => e = .returned (.int .i64 0) ∧ w = w' := by
  have hc := hH.cellH
  clear hH
  go_enter Tryz.func42, Tryz.ntmps42
  go_wp2
  go_ret
  exact ⟨rfl, rfl⟩
end Go.Proofs.YtoalboilghgalaaGreatDoor

/- cmp.Compare, cmp.Or. -/
namespace Go.Proofs.YtoalboilghgalaaGreatDoor
open Go.RowKit
open Go.Proofs.Dc (V Ds Ky)
attribute [local go_sem] run_store_float

theorem nan_int (x : Int) (w : World) : Calls Tryz.prog 270 #[.int .i64 x] w fun e w' => e = .returned (.bool false) ∧ w = w' := by
  go_enter Tryz.func270, Tryz.ntmps270
  go_wp2
  go_ret
  exact ⟨by simp, rfl⟩

/-- which is the greater -/
def cmpI (x y : Int) : Int := if x < y then -1 else if y < x then 1 else 0
theorem cmp_int (x y : Int) (w : World) : Calls Tryz.prog 265 #[.int .i64 x, .int .i64 y] w fun e w' => e = .returned (.int .i64 (cmpI x y)) ∧ w = w' := by
  unfold cmpI
  by_cases h1 : x < y
  · rw [if_pos h1]
    go_enter Tryz.func265, Tryz.ntmps265
    go_wp2_with (go_at_call 270; refine (nan_int _ _).mono ?_; rintro e w' ⟨rfl, rfl⟩)
    go_ret
    exact ⟨rfl, rfl⟩
  · by_cases h2 : y < x
    · rw [if_neg h1, if_pos h2]
      go_enter Tryz.func265, Tryz.ntmps265
      go_wp2_with (go_at_call 270; refine (nan_int _ _).mono ?_; rintro e w' ⟨rfl, rfl⟩)
      go_ret
      exact ⟨rfl, rfl⟩
    · rw [if_neg h1, if_neg h2]
      go_enter Tryz.func265, Tryz.ntmps265
      go_wp2_with (go_at_call 270; refine (nan_int _ _).mono ?_; rintro e w' ⟨rfl, rfl⟩)
      go_ret
      exact ⟨rfl, rfl⟩

theorem nan_u32 (x : Int) (w : World) : Calls Tryz.prog 271 #[.int .u32 x] w fun e w' => e = .returned (.bool false) ∧ w = w' := by
  go_enter Tryz.func271, Tryz.ntmps271
  go_wp2
  go_ret
  exact ⟨by simp, rfl⟩

theorem cmp_u32 (x y : Int) (w : World) : Calls Tryz.prog 266 #[.int .u32 x, .int .u32 y] w fun e w' => e = .returned (.int .i64 (cmpI x y)) ∧ w = w' := by
  unfold cmpI
  by_cases h1 : x < y
  · rw [if_pos h1]
    go_enter Tryz.func266, Tryz.ntmps266
    go_wp2_with (go_at_call 271; refine (nan_u32 _ _).mono ?_; rintro e w' ⟨rfl, rfl⟩)
    go_ret
    exact ⟨rfl, rfl⟩
  · by_cases h2 : y < x
    · rw [if_neg h1, if_pos h2]
      go_enter Tryz.func266, Tryz.ntmps266
      go_wp2_with (go_at_call 271; refine (nan_u32 _ _).mono ?_; rintro e w' ⟨rfl, rfl⟩)
      go_ret
      exact ⟨rfl, rfl⟩
    · rw [if_neg h1, if_neg h2]
      go_enter Tryz.func266, Tryz.ntmps266
      go_wp2_with (go_at_call 271; refine (nan_u32 _ _).mono ?_; rintro e w' ⟨rfl, rfl⟩)
      go_ret
      exact ⟨rfl, rfl⟩

theorem or_any (g : Nat) (x y : Int) (w : World) (hB : Blk w g #[.int .i64 x, .int .i64 y] 3) : Calls Tryz.prog 264 #[.slice (some ⟨g, 0, none⟩) 2 2] w fun e w' => e = .returned (.int .i64 (if x = 0 then y else x)) ∧ w = w' := by
  have hc := hB.cell
  by_cases h : x = 0
  · subst h
    rw [if_pos rfl]
    by_cases h2 : y = 0
    · subst h2
      clear hB
      go_enter Tryz.func264, Tryz.ntmps264
      go_wp2
      refine wp_loop_rounds 3 ?_
      rw [rounds_succ]
      go_wp2
      rw [rounds_succ]
      go_wp2
      rw [rounds_succ]
      go_wp2
      go_ret
      exact ⟨rfl, rfl⟩
    · have h3 : (y != 0) = true := by simpa using h2
      have h4 : (y == 0) = false := by simpa using h2
      clear hB h2
      go_enter Tryz.func264, Tryz.ntmps264
      go_wp2
      refine wp_loop_rounds 3 ?_
      rw [rounds_succ]
      go_wp2
      rw [rounds_succ]
      go_wp2
      go_ret
      exact ⟨rfl, rfl⟩
  · rw [if_neg h]
    have h3 : (x != 0) = true := by simpa using h
    have h4 : (x == 0) = false := by simpa using h
    clear hB h
    go_enter Tryz.func264, Tryz.ntmps264
    go_wp2
    refine wp_loop_rounds 3 ?_
    rw [rounds_succ]
    go_wp2
    go_ret
    exact ⟨rfl, rfl⟩

end Go.Proofs.YtoalboilghgalaaGreatDoor
