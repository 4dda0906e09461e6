/- Lemmas for this claim, in parts: Newof, Pic, Pict. -/
import Derived.Test.YtoalboilghgalaaGreatDoorA34
import Derived.Deep.DeepCutAuto
import Derived.Deep.AppendLies
/- newOf: an object with properties, each defined. -/
namespace Go.Proofs.YtoalboilghgalaaGreatDoor
open Go.RowKit
open Go.Proofs.Dc (V Ds Ky)
attribute [local go_sem] run_store_float

attribute [local go_sem] Oper.semAt_some
/-- the caller's list of properties, below n0 -/
def ArgAt (n0 : Nat) (W : World) (A : Option Addr) (ps : List (Ky × Ds)) : Prop := ∀ i, (h : i < ps.length) → ∃ b off, A = some ⟨b, off, none⟩ ∧ b < n0 ∧ b < W.heap.size ∧ W.rangeAt b (off + i * 20) (pCells ps[i])
theorem ArgAt.below {n0 : Nat} {W W' : World} {A : Option Addr} {ps : List (Ky × Ds)} (h : ArgAt n0 W A ps) (hb : Below n0 W W') : ArgAt n0 W' A ps := fun i hi => by
  obtain ⟨b, off, h1, h2, h3, h4⟩ := h i hi
  exact ⟨b, off, h1, h2, Nat.lt_of_lt_of_le h3 hb.size, fun j v hv => (World.cell?_of_block (w := W) (a := ⟨b, _, none⟩) (hb.block b h2)).trans (h4 j v hv)⟩
theorem range_sub {W : World} {b o : Nat} {cs ds : List Value} (h : W.rangeAt b o cs) (k : Nat) (hk : ∀ j, j < ds.length → cs[k + j]? = ds[j]?) : W.rangeAt b (o + k) ds := fun j v hv => by
  have hj := (List.getElem?_eq_some_iff.1 hv).1
  rw [Nat.add_assoc]
  exact h (k + j) v ((hk j hj).trans hv)
theorem arg_key {W : World} {b o : Nat} {x : Ky × Ds} (h : W.rangeAt b o (pCells x)) : W.rangeAt b o [.string x.1.str, .int .i64 x.1.sym] := fun j v hv => by
  have hj : j < 2 := (List.getElem?_eq_some_iff.1 hv).1
  refine h j v ?_
  match j, hj with
  | 0, _ => exact hv
  | 1, _ => exact hv
theorem arg_desc {W : World} {b o : Nat} {x : Ky × Ds} (h : W.rangeAt b o (pCells x)) : W.rangeAt b (o + 2) [.int .i64 x.2.val.kind, .bool x.2.val.bool, .float .f64 x.2.val.num, .string x.2.val.str, .int .i64 x.2.val.id, .int .i64 x.2.get.kind, .bool x.2.get.bool, .float .f64 x.2.get.num, .string x.2.get.str, .int .i64 x.2.get.id, .int .i64 x.2.set.kind, .bool x.2.set.bool, .float .f64 x.2.set.num, .string x.2.set.str, .int .i64 x.2.set.id, .int .i64 x.2.w, .int .i64 x.2.e, .int .i64 x.2.c] := range_sub h 2 fun j _ => by
  rw [Nat.add_comm]; rfl
/-- how newOf ends: an error, or a heap with one object -/
def NewPost (n0 : Nat) (w : World) (hb : Nat) (N : Nat) (e : Ending) (w' : World) : Prop :=
  (∃ n, n ≠ 0 ∧ e = .returned (.tuple #[.int .i64 0, errV n]) ∧ Keeps n0 w w') ∨
  ∃ ov ob tp L F, e = .returned (.tuple #[.int .i64 1, .nilIface]) ∧ StX n0 w' hb ov ob tp 1 ((F : Nat) : Int) 0 kO true L ∧ FixOk L ∧ L.length ≤ N ∧ Keeps n0 w w'
set_option maxRecDepth 100000 in
set_option maxHeartbeats 4000000 in
theorem newof_any (n0 hb : Nat) (w : World) (hn : n0 ≤ w.heap.size) (hnb : n0 ≤ hb) (hT : Tabs w) (htn : Tryz.lays197_ren.g 3 < n0 ∧ Tryz.lays197_ren.g 4 < n0) (hH : Blk w hb (hArr 1 100000 10 0 (.slice none 0 0)) 102) (A : Option Addr) (ps : List (Ky × Ds)) (cap : Nat) (hA : ArgAt n0 w A ps) (hps : ps.length ≤ 100) (hnums : ∀ p ∈ ps, Nums p.2) :
    Calls Tryz.prog 30 #[.pointer (some ⟨hb, 0, none⟩), .slice A ps.length cap] w fun e w' => NewPost n0 w hb ps.length e w' := by
  have HM := Lib.hid (make0 n0 hb 1 100000 w hn hnb hT htn (by decide) hH)
  obtain ⟨n, hn2⟩ : ∃ n, ps.length = n := ⟨_, rfl⟩
  have HA := Lib.hid hA
  have HNU := Lib.hid hnums
  have HN := Lib.hid hn2
  have HNW := Lib.hid hn
  rw [hn2] at hps
  rw [hn2]
  clear hA hnums hn2 hT htn hH hn
  go_enter Tryz.func30, Tryz.ntmps30
  go_wp2_with (go_at_call 74; refine HM.out.mono ?_; rintro e wm ⟨ov, ob, rfl, sm, km⟩; have cur := (⟨sm, km, by simp, by simp, HNW.out⟩ : Bag n0 w wm hb ov ob none 1 100000 0 kO true [] []); clear sm km)
  go_loopg [8] n (fun fu s8 wr => ∃ (i F : Nat) (L : List (Ky × Ds)) (tq : Option Addr), s8 = .int .i64 i ∧ i + fu = n ∧ F + i = 100000 ∧ FixOk L ∧ L.length ≤ i ∧ Bag n0 w wr hb ov ob tq 1 F 0 kO true L [])
  case atStart => exact ⟨0, 100000, [], none, rfl, by omega, rfl, FixOk.nil, Nat.le_refl _, cur⟩
  case round =>
    obtain ⟨i, F, L, tq0, rfl, hi, hF, hfx, hlen, cur⟩ := hrel
    by_cases hlt : i < n
    · obtain ⟨b, off, rfl, hbn, hbl, hrange⟩ := (HA.out.below cur.k.below) i (by rw [HN.out]; exact hlt)
      obtain ⟨x, hx⟩ : ∃ x, ps[i]'(by rw [HN.out]; exact hlt) = x := ⟨_, rfl⟩
      have hnx : Nums x.2 := by rw [← hx]; exact HNU.out _ (List.getElem_mem _)
      rw [hx] at hrange
      have HARG : World.rangeAt (World.drew _) b (off + i * 20) (pCells x) := (World.rangeAt_drew _ _ _ _).2 hrange
      obtain ⟨F2, rfl⟩ : ∃ F2, F = F2 + 1 := ⟨F - 1, by omega⟩
      obtain ⟨i2, hi2⟩ : ∃ i2, i + 1 = i2 := ⟨_, rfl⟩
      have e1 : (i : Int) + 1 = (i2 : Int) := by omega
      have e2 := wrap_nat i2 (by omega)
      have e3 : (0 : Int) ≤ (i : Int) := by omega
      have e4 : (i : Int) < (n : Int) := by omega
      obtain ⟨fu, rfl⟩ : ∃ fu, gk = fu + 1 := ⟨gk - 1, by omega⟩
      have HI3 := Lib.hid (show i2 + fu = n ∧ i2 ≤ 100 ∧ F2 + i2 = 100000 ∧ i + 1 = i2 by omega)
      by_cases hw : wrongD x.1 x.2 = 0
      · have HX := Lib.hid (show FixOk L ∧ Nums x.2 ∧ True ∧ wrongD x.1 x.2 = 0 ∧ L.length ≤ i from ⟨hfx, hnx, trivial, hw, hlen⟩)
        have HC : Hid (∀ W {tp : Option Addr} (s : StX n0 W hb ov ob tp 1 ((F2 + 1 : Nat) : Int) 0 kO true L), Calls Tryz.prog 14 #[.pointer (some ⟨hb, 0, none⟩), .int .i64 1, .agg (kArr x.1), .agg (dArr x.2)] W fun e w' => ∃ tq, e = .returned (.tuple #[.bool (defB true L x.1 x.2), .nilIface]) ∧ StX n0 w' hb ov ob tq 1 (F2 : Int) 0 kO true (defL true L x.1 x.2) ∧ Keeps n0 W w') := Lib.hid fun W tp s => by
          have h := ddef_in s (by omega) x.1 x.2 hnx hw (by have := hfx.len; exact this) hfx.nums hfx.ok
          rw [show ((F2 + 1 : Nat) : Int) - 1 = (F2 : Int) by omega] at h
          exact h
        clear hw hfx hnx hlen hx hrange hi hF hi2
        go_wp2
        refine Ord.region (fun W => W.rangeAt b (off + i * 20) (pCells x)) [13, 14, 15, 16, 17] (by kernel_rfl) HARG ?_
        intro hS
        replace cur := cur.drew
        refine Ord.take (i := 0) (v := ?_) 27 rfl rfl (by kernel_rfl) (by kernel_rfl) (by kernel_rfl) (by kernel_rfl) (fun _ _ _ h => h) (by assumption) (Or.inl ⟨by rfl, ?_⟩) ?_
        rotate_left
        · (intro W hSW; first | (with_reducible rfl) | (go_simp; done) | (go_simp; with_reducible rfl))
        try simp only [List.setIfInBounds_toArray, List.set_cons_zero, List.set_cons_succ]
        refine Ord.take (i := 1) (v := ?_) 28 rfl rfl (by kernel_rfl) (by kernel_rfl) (by kernel_rfl) (by kernel_rfl) (fun _ _ _ h => h) (by assumption) (Or.inl ⟨by rfl, ?_⟩) ?_
        rotate_left
        · (intro W hSW; first | (with_reducible rfl) | (go_simp; done) | (go_simp; with_reducible rfl))
        try simp only [List.setIfInBounds_toArray, List.set_cons_zero, List.set_cons_succ]
        refine Ord.take (i := 2) (v := ?_) 29 rfl rfl (by kernel_rfl) (by kernel_rfl) (by kernel_rfl) (by kernel_rfl) (fun _ _ _ h => h) (by assumption) (Or.inl ⟨by rfl, ?_⟩) ?_
        rotate_left
        · (intro W hSW; first | (with_reducible rfl) | (go_simp; done) | (go_simp; with_reducible rfl))
        try simp only [List.setIfInBounds_toArray, List.set_cons_zero, List.set_cons_succ]
        refine Ord.take (i := 3) (v := ?_) 30 rfl rfl (by kernel_rfl) (by kernel_rfl) (by kernel_rfl) (by kernel_rfl) (fun _ _ _ h => h) (by assumption) (Or.inl ⟨by rfl, ?_⟩) ?_
        rotate_left
        · (intro W hSW; first | (with_reducible rfl) | (go_simp; done) | (go_simp; with_reducible rfl))
        try simp only [List.setIfInBounds_toArray, List.set_cons_zero, List.set_cons_succ]
        refine Ord.take (i := 4) (v := ?_) 31 rfl rfl (by kernel_rfl) (by kernel_rfl) (by kernel_rfl) (by kernel_rfl) (fun _ _ _ h => h) (by assumption) (Or.inl ⟨by rfl, ?_⟩) ?_
        rotate_left
        · (intro W hSW; first | (with_reducible rfl) | (go_simp; done) | (go_simp; with_reducible rfl))
        try simp only [List.setIfInBounds_toArray, List.set_cons_zero, List.set_cons_succ]
        refine Ord.take (i := 5) (v := ?_) 32 rfl rfl (by kernel_rfl) (by kernel_rfl) (by kernel_rfl) (by kernel_rfl) (fun _ _ _ h => h) (by assumption) (Or.inl ⟨by rfl, ?_⟩) ?_
        rotate_left
        · (intro W hSW; first | (with_reducible rfl) | (go_simp; done) | (go_simp; with_reducible rfl))
        try simp only [List.setIfInBounds_toArray, List.set_cons_zero, List.set_cons_succ]
        refine Ord.take (i := 6) 33 rfl rfl (by kernel_rfl) (by kernel_rfl) (by kernel_rfl) (by kernel_rfl) (fun _ _ _ h => h) (by assumption) (yieldsIf_load_mid (by rfl) 40 _ rfl b (off + i * 20) rfl ([.string x.1.str, .int .i64 x.1.sym]) _ (fun W hSW => arg_key hSW) Tryz.underlying40 rfl Tryz.size40) ?_
        try simp only [List.setIfInBounds_toArray, List.set_cons_zero, List.set_cons_succ]
        refine Ord.take (i := 7) (v := ?_) 34 rfl rfl (by kernel_rfl) (by kernel_rfl) (by kernel_rfl) (by kernel_rfl) (fun _ _ _ h => h) (by assumption) (Or.inl ⟨by rfl, ?_⟩) ?_
        rotate_left
        · (intro W hSW; first | (with_reducible rfl) | (go_simp; done) | (go_simp; with_reducible rfl))
        try simp only [List.setIfInBounds_toArray, List.set_cons_zero, List.set_cons_succ]
        refine Ord.take (i := 8) (v := ?_) 35 rfl rfl (by kernel_rfl) (by kernel_rfl) (by kernel_rfl) (by kernel_rfl) (fun _ _ _ h => h) (by assumption) (Or.inl ⟨by rfl, ?_⟩) ?_
        rotate_left
        · (intro W hSW; first | (with_reducible rfl) | (go_simp; done) | (go_simp; with_reducible rfl))
        try simp only [List.setIfInBounds_toArray, List.set_cons_zero, List.set_cons_succ]
        refine Ord.take (i := 9) (v := ?_) 36 rfl rfl (by kernel_rfl) (by kernel_rfl) (by kernel_rfl) (by kernel_rfl) (fun _ _ _ h => h) (by assumption) (Or.inl ⟨by rfl, ?_⟩) ?_
        rotate_left
        · (intro W hSW; first | (with_reducible rfl) | (go_simp; done) | (go_simp; with_reducible rfl))
        try simp only [List.setIfInBounds_toArray, List.set_cons_zero, List.set_cons_succ]
        refine Ord.take (i := 10) (v := ?_) 37 rfl rfl (by kernel_rfl) (by kernel_rfl) (by kernel_rfl) (by kernel_rfl) (fun _ _ _ h => h) (by assumption) (Or.inl ⟨by rfl, ?_⟩) ?_
        rotate_left
        · (intro W hSW; first | (with_reducible rfl) | (go_simp; done) | (go_simp; with_reducible rfl))
        try simp only [List.setIfInBounds_toArray, List.set_cons_zero, List.set_cons_succ]
        refine Ord.take (i := 11) 38 rfl rfl (by kernel_rfl) (by kernel_rfl) (by kernel_rfl) (by kernel_rfl) (fun _ _ _ h => h) (by assumption) (yieldsIf_load_mid (by rfl) 43 _ rfl b (off + i * 20 + 2) rfl ([.int .i64 x.2.val.kind, .bool x.2.val.bool, .float .f64 x.2.val.num, .string x.2.val.str, .int .i64 x.2.val.id, .int .i64 x.2.get.kind, .bool x.2.get.bool, .float .f64 x.2.get.num, .string x.2.get.str, .int .i64 x.2.get.id, .int .i64 x.2.set.kind, .bool x.2.set.bool, .float .f64 x.2.set.num, .string x.2.set.str, .int .i64 x.2.set.id, .int .i64 x.2.w, .int .i64 x.2.e, .int .i64 x.2.c]) _ (fun W hSW => arg_desc hSW) Tryz.underlying43 rfl Tryz.size43) ?_
        try simp only [List.setIfInBounds_toArray, List.set_cons_zero, List.set_cons_succ]
        refine Ord.step (i := 12) rfl (by kernel_rfl) (by rfl) ?_
        intro K HK
        go_simp
        go_at_call 14
        refine (HC.out _ cur.again.s).mono ?_
        rintro e w4 ⟨tq, rfl, s9, k9⟩
        replace cur := cur.go s9 k9
        refine HK.out _ _ ?_
        clear HK
        refine ⟨Ord.no_pend (S := fun W => W.rangeAt b (off + i * 20) (pCells x)) (by kernel_rfl), ?_⟩
        try simp only [List.setIfInBounds_toArray, List.set_cons_zero, List.set_cons_succ]
        refine Ord.take_free (i := 13) (v := ?_) 26 rfl rfl (by kernel_rfl) (by kernel_rfl) (by kernel_rfl) (by kernel_rfl) (fun _ _ _ h => h) (by first | (intro _; assumption) | exact Ord.no_pend (S := fun W => W.rangeAt b (off + i * 20) (pCells x)) (by kernel_rfl)) (Or.inl ⟨by rfl, ?_⟩) ?_
        rotate_left
        · (intro W hSW; first | (with_reducible rfl) | (go_simp; done) | (go_simp; with_reducible rfl))
        try simp only [List.setIfInBounds_toArray, List.set_cons_zero, List.set_cons_succ]
        refine Ord.take_free (i := 14) (v := ?_) 40 rfl rfl (by kernel_rfl) (by kernel_rfl) (by kernel_rfl) (by kernel_rfl) (fun _ _ _ h => h) (by first | (intro _; assumption) | exact Ord.no_pend (S := fun W => W.rangeAt b (off + i * 20) (pCells x)) (by kernel_rfl)) (Or.inl ⟨by rfl, ?_⟩) ?_
        rotate_left
        · (intro W hSW; first | (with_reducible rfl) | (go_simp; done) | (go_simp; with_reducible rfl))
        try simp only [List.setIfInBounds_toArray, List.set_cons_zero, List.set_cons_succ]
        refine Ord.take_free (i := 15) (v := ?_) 41 rfl rfl (by kernel_rfl) (by kernel_rfl) (by kernel_rfl) (by kernel_rfl) (fun _ _ _ h => h) (by first | (intro _; assumption) | exact Ord.no_pend (S := fun W => W.rangeAt b (off + i * 20) (pCells x)) (by kernel_rfl)) (Or.inl ⟨by rfl, ?_⟩) ?_
        rotate_left
        · (intro W hSW; first | (with_reducible rfl) | (go_simp; done) | (go_simp; with_reducible rfl))
        try simp only [List.setIfInBounds_toArray, List.set_cons_zero, List.set_cons_succ]
        refine Ord.take_free (i := 16) (v := ?_) 9 rfl rfl (by kernel_rfl) (by kernel_rfl) (by kernel_rfl) (by kernel_rfl) (fun _ _ _ h => h) (by first | (intro _; assumption) | exact Ord.no_pend (S := fun W => W.rangeAt b (off + i * 20) (pCells x)) (by kernel_rfl)) (Or.inl ⟨by rfl, ?_⟩) ?_
        rotate_left
        · (intro W hSW; first | (with_reducible rfl) | (go_simp; done) | (go_simp; with_reducible rfl))
        try simp only [List.setIfInBounds_toArray, List.set_cons_zero, List.set_cons_succ]
        refine Ord.take_free (i := 17) (v := ?_) 10 rfl rfl (by kernel_rfl) (by kernel_rfl) (by kernel_rfl) (by kernel_rfl) (fun _ _ _ h => h) (by first | (intro _; assumption) | exact Ord.no_pend (S := fun W => W.rangeAt b (off + i * 20) (pCells x)) (by kernel_rfl)) (Or.inl ⟨by rfl, ?_⟩) ?_
        rotate_left
        · (intro W hSW; first | (with_reducible rfl) | (go_simp; done) | (go_simp; with_reducible rfl))
        try simp only [List.setIfInBounds_toArray, List.set_cons_zero, List.set_cons_succ]
        refine Ord.done (by kernel_rfl) ?_ _
        clear hS
        go_wp2
        go_roundg fu
        case measure => omega
        case rel =>
          refine ⟨i2, F2, defL true L x.1 x.2, tq, rfl, HI3.out.1, HI3.out.2.2.1, HX.out.1.define (by have := HI3.out; have := HX.out.2.2.2.2; omega) true HX.out.2.1 HX.out.2.2.2.1, ?_, cur⟩
          have := def_length true L x.1 x.2
          have := HI3.out; have := HX.out.2.2.2.2; omega
      · obtain ⟨ne, hne⟩ : ∃ ne, wrongD x.1 x.2 = ne := ⟨_, rfl⟩
        rw [hne] at hw
        have HNZ := Lib.hid hw
        have HC : Hid (∀ W {tp : Option Addr} (s : StX n0 W hb ov ob tp 1 ((F2 + 1 : Nat) : Int) 0 kO true L), Calls Tryz.prog 14 #[.pointer (some ⟨hb, 0, none⟩), .int .i64 1, .agg (kArr x.1), .agg (dArr x.2)] W fun e w' => ∃ tq, e = .returned (.tuple #[.bool false, errV ne]) ∧ StX n0 w' hb ov ob tq 1 ((F2 + 1 : Nat) : Int) 0 kO true L ∧ Keeps n0 W w') := Lib.hid fun W tp s => ddef_bad s x.1 x.2 hnx ne hne hw
        clear hne hw hfx hnx hlen hx hrange hi hF hi2
        go_wp2
        refine Ord.region (fun W => W.rangeAt b (off + i * 20) (pCells x)) [13, 14, 15, 16, 17] (by kernel_rfl) HARG ?_
        intro hS
        replace cur := cur.drew
        refine Ord.take (i := 0) (v := ?_) 27 rfl rfl (by kernel_rfl) (by kernel_rfl) (by kernel_rfl) (by kernel_rfl) (fun _ _ _ h => h) (by assumption) (Or.inl ⟨by rfl, ?_⟩) ?_
        rotate_left
        · (intro W hSW; first | (with_reducible rfl) | (go_simp; done) | (go_simp; with_reducible rfl))
        try simp only [List.setIfInBounds_toArray, List.set_cons_zero, List.set_cons_succ]
        refine Ord.take (i := 1) (v := ?_) 28 rfl rfl (by kernel_rfl) (by kernel_rfl) (by kernel_rfl) (by kernel_rfl) (fun _ _ _ h => h) (by assumption) (Or.inl ⟨by rfl, ?_⟩) ?_
        rotate_left
        · (intro W hSW; first | (with_reducible rfl) | (go_simp; done) | (go_simp; with_reducible rfl))
        try simp only [List.setIfInBounds_toArray, List.set_cons_zero, List.set_cons_succ]
        refine Ord.take (i := 2) (v := ?_) 29 rfl rfl (by kernel_rfl) (by kernel_rfl) (by kernel_rfl) (by kernel_rfl) (fun _ _ _ h => h) (by assumption) (Or.inl ⟨by rfl, ?_⟩) ?_
        rotate_left
        · (intro W hSW; first | (with_reducible rfl) | (go_simp; done) | (go_simp; with_reducible rfl))
        try simp only [List.setIfInBounds_toArray, List.set_cons_zero, List.set_cons_succ]
        refine Ord.take (i := 3) (v := ?_) 30 rfl rfl (by kernel_rfl) (by kernel_rfl) (by kernel_rfl) (by kernel_rfl) (fun _ _ _ h => h) (by assumption) (Or.inl ⟨by rfl, ?_⟩) ?_
        rotate_left
        · (intro W hSW; first | (with_reducible rfl) | (go_simp; done) | (go_simp; with_reducible rfl))
        try simp only [List.setIfInBounds_toArray, List.set_cons_zero, List.set_cons_succ]
        refine Ord.take (i := 4) (v := ?_) 31 rfl rfl (by kernel_rfl) (by kernel_rfl) (by kernel_rfl) (by kernel_rfl) (fun _ _ _ h => h) (by assumption) (Or.inl ⟨by rfl, ?_⟩) ?_
        rotate_left
        · (intro W hSW; first | (with_reducible rfl) | (go_simp; done) | (go_simp; with_reducible rfl))
        try simp only [List.setIfInBounds_toArray, List.set_cons_zero, List.set_cons_succ]
        refine Ord.take (i := 5) (v := ?_) 32 rfl rfl (by kernel_rfl) (by kernel_rfl) (by kernel_rfl) (by kernel_rfl) (fun _ _ _ h => h) (by assumption) (Or.inl ⟨by rfl, ?_⟩) ?_
        rotate_left
        · (intro W hSW; first | (with_reducible rfl) | (go_simp; done) | (go_simp; with_reducible rfl))
        try simp only [List.setIfInBounds_toArray, List.set_cons_zero, List.set_cons_succ]
        refine Ord.take (i := 6) 33 rfl rfl (by kernel_rfl) (by kernel_rfl) (by kernel_rfl) (by kernel_rfl) (fun _ _ _ h => h) (by assumption) (yieldsIf_load_mid (by rfl) 40 _ rfl b (off + i * 20) rfl ([.string x.1.str, .int .i64 x.1.sym]) _ (fun W hSW => arg_key hSW) Tryz.underlying40 rfl Tryz.size40) ?_
        try simp only [List.setIfInBounds_toArray, List.set_cons_zero, List.set_cons_succ]
        refine Ord.take (i := 7) (v := ?_) 34 rfl rfl (by kernel_rfl) (by kernel_rfl) (by kernel_rfl) (by kernel_rfl) (fun _ _ _ h => h) (by assumption) (Or.inl ⟨by rfl, ?_⟩) ?_
        rotate_left
        · (intro W hSW; first | (with_reducible rfl) | (go_simp; done) | (go_simp; with_reducible rfl))
        try simp only [List.setIfInBounds_toArray, List.set_cons_zero, List.set_cons_succ]
        refine Ord.take (i := 8) (v := ?_) 35 rfl rfl (by kernel_rfl) (by kernel_rfl) (by kernel_rfl) (by kernel_rfl) (fun _ _ _ h => h) (by assumption) (Or.inl ⟨by rfl, ?_⟩) ?_
        rotate_left
        · (intro W hSW; first | (with_reducible rfl) | (go_simp; done) | (go_simp; with_reducible rfl))
        try simp only [List.setIfInBounds_toArray, List.set_cons_zero, List.set_cons_succ]
        refine Ord.take (i := 9) (v := ?_) 36 rfl rfl (by kernel_rfl) (by kernel_rfl) (by kernel_rfl) (by kernel_rfl) (fun _ _ _ h => h) (by assumption) (Or.inl ⟨by rfl, ?_⟩) ?_
        rotate_left
        · (intro W hSW; first | (with_reducible rfl) | (go_simp; done) | (go_simp; with_reducible rfl))
        try simp only [List.setIfInBounds_toArray, List.set_cons_zero, List.set_cons_succ]
        refine Ord.take (i := 10) (v := ?_) 37 rfl rfl (by kernel_rfl) (by kernel_rfl) (by kernel_rfl) (by kernel_rfl) (fun _ _ _ h => h) (by assumption) (Or.inl ⟨by rfl, ?_⟩) ?_
        rotate_left
        · (intro W hSW; first | (with_reducible rfl) | (go_simp; done) | (go_simp; with_reducible rfl))
        try simp only [List.setIfInBounds_toArray, List.set_cons_zero, List.set_cons_succ]
        refine Ord.take (i := 11) 38 rfl rfl (by kernel_rfl) (by kernel_rfl) (by kernel_rfl) (by kernel_rfl) (fun _ _ _ h => h) (by assumption) (yieldsIf_load_mid (by rfl) 43 _ rfl b (off + i * 20 + 2) rfl ([.int .i64 x.2.val.kind, .bool x.2.val.bool, .float .f64 x.2.val.num, .string x.2.val.str, .int .i64 x.2.val.id, .int .i64 x.2.get.kind, .bool x.2.get.bool, .float .f64 x.2.get.num, .string x.2.get.str, .int .i64 x.2.get.id, .int .i64 x.2.set.kind, .bool x.2.set.bool, .float .f64 x.2.set.num, .string x.2.set.str, .int .i64 x.2.set.id, .int .i64 x.2.w, .int .i64 x.2.e, .int .i64 x.2.c]) _ (fun W hSW => arg_desc hSW) Tryz.underlying43 rfl Tryz.size43) ?_
        try simp only [List.setIfInBounds_toArray, List.set_cons_zero, List.set_cons_succ]
        refine Ord.step (i := 12) rfl (by kernel_rfl) (by rfl) ?_
        intro K HK
        go_simp
        go_at_call 14
        refine (HC.out _ cur.again.s).mono ?_
        rintro e w4 ⟨tq, rfl, s9, k9⟩
        replace cur := cur.go s9 k9
        refine HK.out _ _ ?_
        clear HK
        refine ⟨Ord.no_pend (S := fun W => W.rangeAt b (off + i * 20) (pCells x)) (by kernel_rfl), ?_⟩
        try simp only [List.setIfInBounds_toArray, List.set_cons_zero, List.set_cons_succ]
        refine Ord.take_free (i := 13) (v := ?_) 26 rfl rfl (by kernel_rfl) (by kernel_rfl) (by kernel_rfl) (by kernel_rfl) (fun _ _ _ h => h) (by first | (intro _; assumption) | exact Ord.no_pend (S := fun W => W.rangeAt b (off + i * 20) (pCells x)) (by kernel_rfl)) (Or.inl ⟨by rfl, ?_⟩) ?_
        rotate_left
        · (intro W hSW; first | (with_reducible rfl) | (go_simp; done) | (go_simp; with_reducible rfl))
        try simp only [List.setIfInBounds_toArray, List.set_cons_zero, List.set_cons_succ]
        refine Ord.take_free (i := 14) (v := ?_) 40 rfl rfl (by kernel_rfl) (by kernel_rfl) (by kernel_rfl) (by kernel_rfl) (fun _ _ _ h => h) (by first | (intro _; assumption) | exact Ord.no_pend (S := fun W => W.rangeAt b (off + i * 20) (pCells x)) (by kernel_rfl)) (Or.inl ⟨by rfl, ?_⟩) ?_
        rotate_left
        · (intro W hSW; first | (with_reducible rfl) | (go_simp; done) | (go_simp; with_reducible rfl))
        try simp only [List.setIfInBounds_toArray, List.set_cons_zero, List.set_cons_succ]
        refine Ord.take_free (i := 15) (v := ?_) 41 rfl rfl (by kernel_rfl) (by kernel_rfl) (by kernel_rfl) (by kernel_rfl) (fun _ _ _ h => h) (by first | (intro _; assumption) | exact Ord.no_pend (S := fun W => W.rangeAt b (off + i * 20) (pCells x)) (by kernel_rfl)) (Or.inl ⟨by rfl, ?_⟩) ?_
        rotate_left
        · (intro W hSW; first | (with_reducible rfl) | (go_simp; done) | (go_simp; with_reducible rfl))
        try simp only [List.setIfInBounds_toArray, List.set_cons_zero, List.set_cons_succ]
        refine Ord.take_free (i := 16) (v := ?_) 9 rfl rfl (by kernel_rfl) (by kernel_rfl) (by kernel_rfl) (by kernel_rfl) (fun _ _ _ h => h) (by first | (intro _; assumption) | exact Ord.no_pend (S := fun W => W.rangeAt b (off + i * 20) (pCells x)) (by kernel_rfl)) (Or.inl ⟨by rfl, ?_⟩) ?_
        rotate_left
        · (intro W hSW; first | (with_reducible rfl) | (go_simp; done) | (go_simp; with_reducible rfl))
        try simp only [List.setIfInBounds_toArray, List.set_cons_zero, List.set_cons_succ]
        refine Ord.take_free (i := 17) (v := ?_) 10 rfl rfl (by kernel_rfl) (by kernel_rfl) (by kernel_rfl) (by kernel_rfl) (fun _ _ _ h => h) (by first | (intro _; assumption) | exact Ord.no_pend (S := fun W => W.rangeAt b (off + i * 20) (pCells x)) (by kernel_rfl)) (Or.inl ⟨by rfl, ?_⟩) ?_
        rotate_left
        · (intro W hSW; first | (with_reducible rfl) | (go_simp; done) | (go_simp; with_reducible rfl))
        try simp only [List.setIfInBounds_toArray, List.set_cons_zero, List.set_cons_succ]
        refine Ord.done (by kernel_rfl) ?_ _
        clear hS
        go_wp2
        go_ret2
        exact .inl ⟨_, HNZ.out, rfl, cur.k⟩
    · obtain rfl : i = n := by omega
      have e4 : ¬ (i : Int) < (i : Int) := by omega
      have HFX := Lib.hid (And.intro hfx hlen)
      clear hfx hlen hi hF
      go_wp2
      go_ret2
      exact .inr ⟨ov, ob, tq0, L, F, rfl, cur.s, HFX.out.1, HFX.out.2, cur.k⟩

end Go.Proofs.YtoalboilghgalaaGreatDoor

/- pictured: what an object's methods tell of it. -/
namespace Go.Proofs.YtoalboilghgalaaGreatDoor
open Go.RowKit
open Go.Proofs.Dc (V Ds Ky)
attribute [local go_sem] run_store_float

attribute [local go_sem] Oper.semAt_some
theorem store1_op {P : Program} {o : Oper} {a : Act} {W : World} {K : Act → World → Prop} {Q : Exit → Act → World → Prop} (ty : TypeId) (x y : Operand) (ho : o.op = .store ty x y)
    (b j : Nat) (C : Array Value) (t : TypeId) (v : Value) (hx : a.eval x = .pointer (some ⟨b, j, none⟩)) (hy : a.eval y = v) (hb : Blk W b C t) (hi : (P.info? ty).map (·.size) = some 1) (hj : j < C.size) (hC : v.cells = #[v])
    (h1 : v.oneCell' = true) (h : ∀ W', Blk W' b (C.setIfInBounds j v) t → Only [b] W W' → K (a.put o.dst undef) W') : o.wp P a W K Q := by
  have e : storeVar ty ⟨b, j, none⟩ v = storeVar ty ⟨b, j, none⟩ (.agg #[v]) := by
    unfold storeVar
    rw [hC]
    rfl
  have hr : (storeVar ty ⟨b, j, none⟩ v).run P W = .ok () (W.setCells b j [v]) := by
    rw [e]
    exact run_storeVar_mid W b j ty #[v] (fun i hi' => by
      have hi0 : i = 0 := by simpa using hi'
      subst hi0
      exact ⟨by rw [hb.cell, Array.getElem?_eq_getElem (by omega)]; rfl, hb.frozen _⟩) hi (by simp [h1])
  have hk := only_setCells (vs := [v]) (o := j) hb
  unfold Oper.wp execOp
  simp only [ho, hx, hy, Instr.storeAt, Instr.sureAddr, Sem.run_bind, Sem.run_pure, Result.andThen_ok, hr]
  exact h _ hk.1 hk.2
theorem Bag.grown {n0 : Nat} {w W W' : World} {hb : Nat} {ov : Value} {ob : Nat} {tp : Option Addr} {cap fuel deep : Int} {kd : Kd} {ext : Bool} {L : List (Ky × Ds)} {Bs : Bls} (h : Bag n0 w W hb ov ob tp cap fuel deep kd ext L Bs) {v : Value} {n : Nat} {xs : List Value}
    (hg : W.grownBy W' v.ownBlock) (hown : W.ownsRow w.heap.size 45 20 v n xs) (hne : ∀ x ∈ Bs, x.2.2 ≠ 45) : Bag n0 w W' hb ov ob tp cap fuel deep kd ext L Bs := by
  have ho := only_grown hg
  rcases hown.2 with ⟨rfl, _⟩ | ⟨g, c, cur, rfl, hbase, hB, _⟩
  · exact h.next (ho.below _ (Nat.le_refl _) (by simp [Value.ownBlock]))
  · have ho' : Only [g] W W' := by simpa [Value.ownBlock] using ho
    refine ⟨h.s.free hB rfl ho' (Nat.le_trans h.n hbase), ⟨h.k.below.trans (ho'.below n0 h.s.sz (by simp; exact Nat.le_trans h.n hbase)), fun k o hk hmo => ?_⟩, fun x hx => ⟨(h.bl x hx).1.only ho' ?_, (h.bl x hx).2⟩, h.nd, h.n⟩
    · have hk' := h.k.free k o hk hmo
      have hlt' := (Array.getElem?_eq_some_iff.1 hk).1
      exact (ho'.block k (Array.getElem?_eq_some_iff.1 hk').1 (by simp; omega)).trans hk'
    · simpa using (h.bl x hx).1.ne hB (hne x hx)
theorem ownsRow_keep {W W' : World} {base : Nat} {e : TypeId} {size n : Nat} {v : Value} {xs : List Value} (h : W.ownsRow base e size v n xs) (hk : ∀ g C, Blk W g C e → Blk W' g C e) : W'.ownsRow base e size v n xs := by
  obtain ⟨h1, h2⟩ := h
  refine ⟨h1, ?_⟩
  rcases h2 with h2 | ⟨g, cap, cur, hv, hg, hh, r⟩
  · exact .inl h2
  · exact .inr ⟨g, cap, cur, hv, hg, hk g cur hh, r⟩
theorem ownsRow_one {W : World} {base : Nat} {e : TypeId} {size n : Nat} {v : Value} {xs : List Value} (h : W.ownsRow base e size v n xs) : v.oneCell' = true ∧ v.cells = #[v] := by
  rcases h.2 with ⟨rfl, _⟩ | ⟨_, _, _, rfl, _⟩ <;> exact ⟨rfl, rfl⟩
theorem PropsAt.of_own {W : World} {base n : Nat} {v : Value} {L : List (Ky × Ds)} (h : W.ownsRow base 45 20 v n (pAll L)) (hn : n = L.length) : PropsAt W v L := by
  subst hn
  have h0 := h
  rcases h.2 with ⟨rfl, h2⟩ | ⟨g, cap, cur, rfl, _⟩
  · exact .inl ⟨List.eq_nil_of_length_eq_zero h2, rfl⟩
  · exact .inr ⟨base, g, cap, rfl, RowAt.of h0⟩
theorem KeysAt.open {W : World} {b : Nat} {v : Value} {l : List Ky} (h : KeysAt W b v l) : ∃ (p : Option Addr) (c g : Nat) (r : List Value), v = .slice p l.length c ∧ (0 < l.length → p = some ⟨g, 0, none⟩ ∧ Blk W g (kRow l r) 40) := by
  rcases h with ⟨rfl, rfl⟩ | ⟨g, c, r, h1, _, h3⟩
  · exact ⟨none, 0, 0, [], rfl, fun h => by simp at h⟩
  · exact ⟨some ⟨g, 0, none⟩, c, g, r, h1, fun _ => ⟨rfl, h3⟩⟩
theorem Blk.cellSp {W : World} {b : Nat} {pv : Value} (h : Blk W b (sArr 0 vN false pv) 73) : W.cell? ⟨b, 7, none⟩ = some pv := h.cell 7
theorem Tryz.isAgg22' (w : World) : (isAgg 22).run Tryz.prog w = .ok false w := by kernel_rfl
theorem pAll_take {L : List (Ky × Ds)} {i : Nat} {p : Ky × Ds} (h : L[i]? = some p) : pAll (L.take i) ++ pCells p = pAll (L.take (i + 1)) := by
  rw [List.take_add_one, h, ← pAll_snoc]; rfl
/-- what the methods tell -/
def PicPost (n0 : Nat) (w : World) (hb : Nat) (ov : Value) (ob : Nat) (cap fuel : Int) (ext : Bool) (L : List (Ky × Ds)) (e : Ending) (w' : World) : Prop :=
  ∃ pv tp, e = .returned (.tuple #[.agg (sArr 0 vN false pv), .bool true]) ∧ PropsAt w' pv (picL L) ∧ StX n0 w' hb ov ob tp cap fuel 0 kO ext L ∧ Keeps n0 w w'
set_option maxRecDepth 100000 in
set_option maxHeartbeats 4000000 in
theorem pictured_any {n0 : Nat} {w : World} {hb : Nat} {ov : Value} {ob : Nat} {tp : Option Addr} {cap fuel : Int} {ext : Bool} {L : List (Ky × Ds)} (s : StX n0 w hb ov ob tp cap fuel 0 kO ext L) (hf : L.length + 2 < fuel ∧ fuel ≤ 9223372036854775807) (hx : FixOk L) : Calls Tryz.prog 77 #[.pointer (some ⟨hb, 0, none⟩), .int .i64 1] w fun e w' => ∃ F, PicPost n0 w hb ov ob cap F ext L e w' := by
  obtain ⟨i0, hi0, hz0, hz1, hz2⟩ := info_parts Tryz.info45
  have cur := Bag.start s
  have HF : Hid ((0 < fuel ∧ fuel ≤ 9223372036854775807) ∧ (0 < fuel - 1 ∧ fuel - 1 ≤ 9223372036854775807)) := Lib.hid (by omega)
  have HF2 := Lib.hid hf
  have HX := Lib.hid hx
  have hle4 : w.heap.size ≤ w.heap.size := Nat.le_refl _
  clear s hf hx
  go_enter Tryz.func77, Tryz.ntmps77
  go_wp2_with (first | ((with_reducible show wpList _ _ _ (⟨some 4, .alloc 73, _, _, _, _⟩ :: _) _ _); refine wpList_alloc_blk rfl 73 rfl sZero zero73 ?_; intro wa hB hL hs; replace cur := cur.push hL hB (Nat.le_refl _) rfl; clear hB hL hs) | (go_at_call 122; refine (dproto_in cur.s HF.out.1).mono ?_; rintro e wX ⟨tp1, rfl, s9, k9⟩; replace cur := cur.go s9 k9; clear s9 k9) | ((with_reducible show wpList _ _ _ (⟨some 6, .alloc 36, _, _, _, _⟩ :: _) _ _); refine wpList_alloc_blk rfl 36 rfl (vArr Dc.v0) zero36 ?_; intro wb hB hL hs; have hle6 := cur.k.size; replace cur := cur.push hL hB (Nat.le_refl _) rfl; clear hB hL hs) | ((with_reducible show wpList _ _ _ (⟨_, .store 36 (.tmp 6) _, _, _, _, _⟩ :: _) _ _); refine wpList_store_blk rfl 36 _ _ rfl _ (vArr vN) _ 36 rfl rfl (cur.blk 0 rfl) Tryz.size36 rfl (vCells_one _) ?_; intro wb2 hB hO; replace cur := cur.set 0 rfl hO hB hle6; clear hB hO) | (go_at_call 20; refine (dkeys_in cur.s HF.out.2 HX.out.ok.keys).mono ?_; rintro e wY ⟨kv, tp2, rfl, hkv, s9, k9⟩; replace cur := cur.go s9 k9; clear s9 k9; obtain ⟨kp, kc, kg, kr, rfl, hkb⟩ := hkv.open) | ((with_reducible show wpList _ _ _ (⟨_, .load 36 (.tmp 6), _, _, _, _⟩ :: _) _ _); refine wpList_load_blk rfl 36 _ rfl _ rfl (cur.blk 0 rfl) Tryz.row36 Tryz.size36 ?_) | ((with_reducible show wpList _ _ _ (⟨some 10, .alloc 73, _, _, _, _⟩ :: _) _ _); refine wpList_alloc_blk rfl 73 rfl sZero zero73 ?_; intro wc hB hL hs; have hle10 := cur.k.size; replace hkb := (fun h => ⟨(hkb h).1, (hkb h).2.next hL⟩ : 0 < (sortK L).length → _ ∧ _); replace cur := cur.push hL hB (Nat.le_refl _) rfl; clear hB hL hs) | ((with_reducible show wpList _ _ _ (⟨_, .store 73 (.tmp 10) _, _, _, _, _⟩ :: _) _ _); refine wpList_store_blk rfl 73 _ _ rfl _ (sArr 0 vN false (.slice none 0 0)) _ 73 rfl rfl (cur.blk 0 rfl) Tryz.size73 rfl (sArr_one rfl) ?_; intro wc2 hB hO; replace hkb := (fun h => ⟨(hkb h).1, (hkb h).2.only hO (by simpa using (hkb h).2.ne (cur.blk 0 rfl) (by decide))⟩ : 0 < (sortK L).length → _ ∧ _); replace cur := cur.set 0 rfl hO hB hle10; clear hB hO))
  obtain ⟨b10, hb10⟩ : ∃ b, wY.heap.size = b := ⟨_, rfl⟩
  obtain ⟨b6, hb6⟩ : ∃ b, wX.heap.size = b := ⟨_, rfl⟩
  rw [hb10] at cur hle10 ⊢
  rw [hb6] at cur hle6 ⊢
  clear hb10 hb6 hkv
  obtain ⟨ks, hks⟩ : ∃ ks, sortK L = ks := ⟨_, rfl⟩
  rw [hks] at hkb ⊢
  obtain ⟨n, hn⟩ : ∃ n, ks.length = n := ⟨_, rfl⟩
  have HKS := Lib.hid hks
  have HN := Lib.hid hn
  have hnL : n = L.length := by rw [← hn, ← hks, sortK_length]
  have HFL : Hid ((n : Int) < fuel - 1 - 1 ∧ fuel - 1 - 1 ≤ 9223372036854775807 ∧ n < 1000000) := Lib.hid (by have := HF2.out; have := HX.out.len; omega)
  rw [hn] at hkb ⊢
  have HNL := Lib.hid hnL
  clear hks hn hnL
  go_loopg [11] n (fun fu s11 wr => ∃ (i : Nat) (pv : Value) (F : Int) (tq : Option Addr), s11 = .int .i64 i ∧ i + fu = n ∧ ((n : Int) - i < F ∧ F ≤ 9223372036854775807) ∧ wr.ownsRow w.heap.size 45 20 pv i (pAll ((picL L).take i)) ∧ (0 < n → kp = some ⟨kg, 0, none⟩ ∧ Blk wr kg (kRow ks kr) 40) ∧ Bag n0 w wr hb ov ob tq cap F 0 kO ext L [(b10, sArr 0 vN false pv, 73), (b6, vArr vN, 36), (w.heap.size, sZero, 73)])
  case atStart => exact ⟨0, .slice none 0 0, fuel - 1 - 1, _, rfl, by omega, ⟨by have := HFL.out; omega, HFL.out.2.1⟩, ⟨rfl, .inl ⟨rfl, rfl⟩⟩, hkb, cur⟩
  case round =>
    obtain ⟨i, pv, F, tq, rfl, hi, hFi, hown, hkb, cur⟩ := hrel
    by_cases hlt : i < n
    · obtain ⟨rfl, hkr⟩ := hkb (by omega)
      obtain ⟨x, hxi⟩ : ∃ x, ks[i]? = some x := ⟨_, List.getElem?_eq_getElem (by rw [HN.out]; exact hlt)⟩
      have hmem : x ∈ L.map (·.1) := sortK_mem (by rw [HKS.out]; exact List.mem_of_getElem? hxi)
      obtain ⟨d, hd⟩ := get_of_mem hmem
      have hkgood : kgood x = true := by obtain ⟨p, hp, rfl⟩ := List.mem_map.1 hmem; exact HX.out.ok.keys p hp
      have HP : Hid ((picL L)[i]? = some (x, d)) := Lib.hid (by unfold picL; rw [HKS.out, List.getElem?_map, hxi]; simp [hd])
      have HX2 := Lib.hid (And.intro hxi trivial)
      have HO0 := Lib.hid hown
      obtain ⟨fu, rfl⟩ : ∃ fu, gk = fu + 1 := ⟨gk - 1, by omega⟩
      obtain ⟨i2, hi2⟩ : ∃ i2, i + 1 = i2 := ⟨_, rfl⟩
      have hnm := HFL.out.2.2
      have e1 : (i : Int) + 1 = (i2 : Int) := by omega
      have e2 := wrap_nat i2 (by omega)
      have e3 : (0 : Int) ≤ (i : Int) := by omega
      have e4 : (i : Int) < (n : Int) := by omega
      have him : i < 1000000 := by omega
      have HI3 := Lib.hid (show i2 + fu = n ∧ i + 1 = i2 ∧ ((n : Int) - (i2 : Nat) < F - 1 ∧ F - 1 ≤ 9223372036854775807) by omega)
      have HLE := Lib.hid hle10
      have HC : Hid (∀ W {tp : Option Addr} (s : StX n0 W hb ov ob tp cap F 0 kO ext L), Calls Tryz.prog 23 #[.pointer (some ⟨hb, 0, none⟩), .int .i64 1, .agg (kArr x)] W fun e w' => Did (.tuple #[.agg (dArr d), .bool true, .nilIface]) n0 W hb ov ob cap (F - 1) kO ext L e w') := Lib.hid fun W tp s => by
        have h := dget_in s (by omega) x hkgood
        rw [hd] at h
        exact h
      clear hxi hmem hd hkgood hown hi hi2 hFi hkb hnm hle10
      go_wp2_with (first | ((with_reducible show wpList _ _ _ (⟨_, .load 40 (.tmp 47), _, _, _, _⟩ :: _) _ _); refine wpList_load_mid rfl 40 _ rfl kg (i * 2) rfl [.string x.str, .int .i64 x.sym] _ (kRow_range hkr i x HX2.out.1) Tryz.underlying40 rfl Tryz.size40 ?_) | (go_at_call 23; refine (HC.out _ cur.s).mono ?_; rintro e wd ⟨tq2, rfl, s9, k9⟩; have hkr0 := hkr.keeps k9 rfl; have HO1 := Lib.hid (ownsRow_keep HO0.out (fun _ _ h => h.keeps k9 rfl)); replace cur := cur.go s9 k9; clear s9 k9) | ((with_reducible show wpList _ _ _ (⟨_, .alloc 43, _, _, _, _⟩ :: _) _ _); refine wpList_alloc_blk rfl 43 rfl (dArr Dc.d0) zero43 ?_; intro we hB hL hs; have hle12 := cur.k.size; have hkr00 := hkr0.next hL; have HO2 := Lib.hid (ownsRow_keep HO1.out (fun _ _ h => h.next hL)); replace cur := cur.push hL hB (Nat.le_refl _) rfl; clear hB hL hs) | ((with_reducible show wpList _ _ _ (⟨_, .store 43 _ _, _, _, _, _⟩ :: _) _ _); refine wpList_store_blk rfl 43 _ _ rfl _ (dArr d) _ 43 rfl rfl (cur.blk 0 rfl) Tryz.size43 rfl (dCells_one _) ?_; intro wf hB hO; have hkr1 := hkr00.only hO (by simpa using hkr00.ne (cur.blk 0 rfl) (by decide)); have HO := Lib.hid (ownsRow_keep HO2.out (fun _ _ h => h.only hO (by simpa using h.ne (cur.blk 0 rfl) (by decide)))); replace cur := cur.set 0 rfl hO hB hle12; clear hB hO))
      obtain ⟨bd, hbd⟩ : ∃ b, wd.heap.size = b := ⟨_, rfl⟩
      rw [hbd] at cur ⊢
      clear hbd hkr hkr0 hkr00 HO0 HO1 HO2 hle12
      refine Ord.region (fun W => (Blk W b10 (sArr 0 vN false pv) 73 ∧ Blk W kg (kRow ks kr) 40) ∧ Blk W bd (dArr d) 43) [] (by kernel_rfl) ⟨⟨cur.drew.blk 1 rfl, hkr1.drewB⟩, cur.drew.blk 0 rfl⟩ ?_
      intro hS
      replace cur := cur.drew
      obtain ⟨wq, hwq⟩ : ∃ wq, wq = wf.drew := ⟨_, rfl⟩
      have HOq : wq.ownsRow w.heap.size 45 20 pv i (pAll ((picL L).take i)) := hwq ▸ ownsRow_keep HO.out (fun _ _ h => h.drewB)
      rw [← hwq] at cur hS ⊢
      clear hwq HO hkr1
      refine Ord.take (i := 0) (v := ?_) 60 rfl rfl (by kernel_rfl) (by kernel_rfl) (by kernel_rfl) (by kernel_rfl) (fun _ _ _ h => h) (by assumption) (Or.inl ⟨by rfl, ?_⟩) ?_
      rotate_left
      · (intro W hSW; first | (with_reducible rfl) | (go_simp; done) | (go_simp; with_reducible rfl))
      try simp only [List.setIfInBounds_toArray, List.set_cons_zero, List.set_cons_succ]
      refine Ord.take (i := 1) 61 rfl rfl (by kernel_rfl) (by kernel_rfl) (by kernel_rfl) (by kernel_rfl) (fun _ _ _ h => h) (by assumption) (yields_load1 (by rfl) 22 _ rfl b10 7 rfl (pv) Tryz.isAgg22 (fun W hSW => hSW.1.1.cellSp)) ?_
      try simp only [List.setIfInBounds_toArray, List.set_cons_zero, List.set_cons_succ]
      refine Ord.take (i := 2) (v := ?_) 62 rfl rfl (by kernel_rfl) (by kernel_rfl) (by kernel_rfl) (by kernel_rfl) (fun _ _ _ h => h) (by assumption) (Or.inl ⟨by rfl, ?_⟩) ?_
      rotate_left
      · (intro W hSW; first | (with_reducible rfl) | (go_simp; done) | (go_simp; with_reducible rfl))
      try simp only [List.setIfInBounds_toArray, List.set_cons_zero, List.set_cons_succ]
      refine Ord.take (i := 3) (v := ?_) 63 rfl rfl (by kernel_rfl) (by kernel_rfl) (by kernel_rfl) (by kernel_rfl) (fun _ _ _ h => h) (by assumption) (Or.inl ⟨by rfl, ?_⟩) ?_
      rotate_left
      · (intro W hSW; first | (with_reducible rfl) | (go_simp; done) | (go_simp; with_reducible rfl))
      try simp only [List.setIfInBounds_toArray, List.set_cons_zero, List.set_cons_succ]
      refine Ord.take (i := 4) (v := ?_) 64 rfl rfl (by kernel_rfl) (by kernel_rfl) (by kernel_rfl) (by kernel_rfl) (fun _ _ _ h => h) (by assumption) (Or.inl ⟨by rfl, ?_⟩) ?_
      rotate_left
      · (intro W hSW; first | (with_reducible rfl) | (go_simp; done) | (go_simp; with_reducible rfl))
      try simp only [List.setIfInBounds_toArray, List.set_cons_zero, List.set_cons_succ]
      refine Ord.take (i := 5) 65 rfl rfl (by kernel_rfl) (by kernel_rfl) (by kernel_rfl) (by kernel_rfl) (fun _ _ _ h => h) (by assumption) (yieldsIf_load_mid (by rfl) 40 _ rfl kg (i * 2) rfl ([.string x.str, .int .i64 x.sym]) _ (fun W hSW => kRow_range hSW.1.2 i x HX2.out.1) Tryz.underlying40 rfl Tryz.size40) ?_
      try simp only [List.setIfInBounds_toArray, List.set_cons_zero, List.set_cons_succ]
      refine Ord.take (i := 6) 66 rfl rfl (by kernel_rfl) (by kernel_rfl) (by kernel_rfl) (by kernel_rfl) (fun _ _ _ h => h) (by assumption) (yieldsIf_load_mid (by rfl) 43 _ rfl bd 0 rfl ([.int .i64 d.val.kind, .bool d.val.bool, .float .f64 d.val.num, .string d.val.str, .int .i64 d.val.id, .int .i64 d.get.kind, .bool d.get.bool, .float .f64 d.get.num, .string d.get.str, .int .i64 d.get.id, .int .i64 d.set.kind, .bool d.set.bool, .float .f64 d.set.num, .string d.set.str, .int .i64 d.set.id, .int .i64 d.w, .int .i64 d.e, .int .i64 d.c]) _ (fun W hSW => range_all hSW.2) Tryz.underlying43 rfl Tryz.size43) ?_
      try simp only [List.setIfInBounds_toArray, List.set_cons_zero, List.set_cons_succ]
      refine Ord.take (i := 7) (v := ?_) 67 rfl rfl (by kernel_rfl) (by kernel_rfl) (by kernel_rfl) (by kernel_rfl) (fun _ _ _ h => h) (by assumption) (Or.inl ⟨by rfl, ?_⟩) ?_
      rotate_left
      · (intro W hSW; first | (with_reducible rfl) | (go_simp; done) | (go_simp; with_reducible rfl))
      try simp only [List.setIfInBounds_toArray, List.set_cons_zero, List.set_cons_succ]
      refine Ord.step (i := 8) rfl (by kernel_rfl) (by rfl) ?_
      intro K HK
      go_simp
      obtain ⟨X, hX⟩ : ∃ X, X = World.alloc wq (.cells (pC (x, d)) 45) := ⟨_, rfl⟩
      refine cast (congrArg (K _) hX) ?_
      have hXb : Below wq.heap.size wq X := hX ▸ one _ _
      have hXB : Blk X wq.heap.size (pC (x, d)) 45 := hX ▸ Blk.new _ _ _
      clear hX
      replace cur := cur.push hXb hXB (Nat.le_refl _) rfl
      have hown2 := ownsRow_keep HOq (fun _ _ h => h.next hXb)
      have hkr2 := hS.1.2.next hXb
      refine HK.out _ _ ?_
      clear HK
      refine Ord.keep (S := fun W => (Blk W b10 (sArr 0 vN false pv) 73 ∧ Blk W kg (kRow ks kr) 40) ∧ Blk W bd (dArr d) 43) ?_ ?_
      · exact ⟨⟨cur.blk 2 rfl, hkr2⟩, cur.blk 1 rfl⟩
      clear hS
      intro hS
      try simp only [List.setIfInBounds_toArray, List.set_cons_zero, List.set_cons_succ]
      refine Ord.step (i := 9) rfl (by kernel_rfl) (by rfl) ?_
      intro K HK
      refine wp_append_lies X (.tmp 61) (.tmp 68) 22 rfl w.heap.size 45 i0 _ 20 192 Tryz.underlying22 hi0 hz0 hz1 hz2 rfl (by decide) pv i (pAll ((picL L).take i)) rfl hown2 ⟨wq.heap.size, 0, none⟩ 1 1 (pCells (x, d)) rfl rfl (World.news_of_block (cs := (pCells (x, d)).toArray) (t := 45) (fr := (0, 0)) hXB) (by simp [pCells, kArr, dArr, Value.oneCell']) (by decide) (by unfold maxLen; omega) (by omega) (by have := cur.k.size; omega) _ rfl ?_
      intro g4 c4 w4 hown4 hgr4 _ _
      have hkr4 := (hkr2).only (only_grown hgr4) (fun hm => by
        have hm' := Option.mem_toList.1 hm
        obtain ⟨_, C, hC⟩ := ownsRow_at hown2 kg hm'
        exact hkr2.ne hC (by decide) rfl)
      replace cur := (cur.drop 1).grown hgr4 hown2 (by simp)
      refine HK.out _ _ ?_
      clear HK
      refine Ord.keep (S := fun W => (Blk W b10 (sArr 0 vN false pv) 73 ∧ Blk W kg (kRow ks kr) 40) ∧ Blk W bd (dArr d) 43) ?_ ?_
      · exact ⟨⟨cur.blk 1 rfl, hkr4⟩, cur.blk 0 rfl⟩
      clear hS
      intro hS
      try simp only [List.setIfInBounds_toArray, List.set_cons_zero, List.set_cons_succ]
      refine Ord.take (i := 10) (v := ?_) 70 rfl rfl (by kernel_rfl) (by kernel_rfl) (by kernel_rfl) (by kernel_rfl) (fun _ _ _ h => h) (by assumption) (Or.inl ⟨by rfl, ?_⟩) ?_
      rotate_left
      · (intro W hSW; first | (with_reducible rfl) | (go_simp; done) | (go_simp; with_reducible rfl))
      try simp only [List.setIfInBounds_toArray, List.set_cons_zero, List.set_cons_succ]
      refine Ord.step (i := 11) rfl (by kernel_rfl) (by rfl) ?_
      intro K HK
      refine store1_op 22 (.tmp 70) (.tmp 69) rfl b10 7 (sArr 0 vN false pv) 73 (.slice (some ⟨g4, 0, none⟩) (i + 1) c4) rfl rfl (cur.blk 1 rfl) Tryz.size22 (show 7 < 8 from by decide) rfl rfl ?_
      intro w5 hB5 hO5
      have hkr5 := hkr4.only hO5 (by simpa using hkr4.ne (cur.blk 1 rfl) (by decide))
      have hown5 := ownsRow_keep hown4 (fun g C hC => hC.only hO5 (by simpa using hC.ne (cur.blk 1 rfl) (by decide)))
      replace cur := (cur.set 1 rfl hO5 hB5 HLE.out).drop 1
      refine HK.out _ _ ?_
      clear HK
      refine ⟨Ord.no_pend (S := fun W => (Blk W b10 (sArr 0 vN false pv) 73 ∧ Blk W kg (kRow ks kr) 40) ∧ Blk W bd (dArr d) 43) (by kernel_rfl), ?_⟩
      try simp only [List.setIfInBounds_toArray, List.set_cons_zero, List.set_cons_succ]
      refine Ord.done (by kernel_rfl) ?_ _
      clear hS
      have HOWN := Lib.hid (And.intro hown5 hkr5)
      clear hown5 hkr5 hB5 hO5 hown4 hgr4 hkr4 hown2 hXb hXB hkr2
      go_wp2
      go_roundg fu
      case measure => omega
      case rel =>
        have e := HI3.out.2.1
        subst e
        refine ⟨i + 1, .slice (some ⟨g4, 0, none⟩) (i + 1) c4, F - 1, tq2, rfl, HI3.out.1, HI3.out.2.2, ?_, ?_, cur⟩
        · rw [← pAll_take HP.out]; exact HOWN.out.1
        · first | exact fun h => ⟨rfl, HOWN.out.2⟩ | exact fun h => ⟨trivial, HOWN.out.2⟩
    · obtain rfl : i = n := by omega
      have e4 : ¬ (i : Int) < (i : Int) := by omega
      have hpv : PropsAt wr pv (picL L) := PropsAt.of_own (by rw [List.take_of_length_le (by rw [picL_length, ← HNL.out]; exact Nat.le_refl _)] at hown; exact hown) (by rw [picL_length, ← HNL.out])
      have HPV := Lib.hid hpv
      have hone := hpv.one
      clear hi hFi hown hkb hpv
      go_wp2_with (first | ((with_reducible show wpList _ _ _ (⟨_, .load 73 (.tmp 10), _, _, _, _⟩ :: _) _ _); refine wpList_load_blk rfl 73 _ rfl _ rfl (cur.blk 0 rfl) Tryz.row73 Tryz.size73 ?_) | ((with_reducible show wpList _ _ _ (⟨_, .store 73 (.tmp 4) _, _, _, _, _⟩ :: _) _ _); refine wpList_store_blk rfl 73 _ _ rfl _ (sArr 0 vN false pv) _ 73 rfl rfl (cur.blk 2 rfl) Tryz.size73 rfl (sArr_one hone) ?_; intro we hB hO; replace HPV := Lib.hid (HPV.out.free (cur.blk 2 rfl) hO (by decide)); replace cur := cur.set 2 rfl hO hB hle4; clear hB hO))
      exact bodyPost_ret (results_cell_tmp Tryz.results77 rfl (cur.blk 2 rfl) Tryz.row73 Tryz.size73) rfl ⟨_, pv, _, rfl, HPV.out, cur.s, cur.k⟩

end Go.Proofs.YtoalboilghgalaaGreatDoor

/- picture: what an object's methods tell of it, with fuel enough. -/
namespace Go.Proofs.YtoalboilghgalaaGreatDoor
open Go.RowKit
open Go.Proofs.Dc (V Ds Ky)
attribute [local go_sem] run_store_float

attribute [local go_sem] Oper.semAt_some
set_option maxRecDepth 100000 in
set_option maxHeartbeats 4000000 in
theorem picture_any {n0 : Nat} {w : World} {hb : Nat} {ov : Value} {ob : Nat} {tp : Option Addr} {cap fuel : Int} {ext : Bool} {L : List (Ky × Ds)} (s : StX n0 w hb ov ob tp cap fuel 0 kO ext L) (hf : 0 ≤ fuel) (hx : FixOk L) : Calls Tryz.prog 31 #[.pointer (some ⟨hb, 0, none⟩), .int .i64 1] w fun e w' => PicPost n0 w hb ov ob cap fuel ext L e w' := by
  have cur := Bag.start s
  have HF0 := Lib.hid hf
  have HC : Hid (∀ W {tp : Option Addr} (s : StX n0 W hb ov ob tp cap 1099511627776 0 kO ext L), Calls Tryz.prog 77 #[.pointer (some ⟨hb, 0, none⟩), .int .i64 1] W fun e w' => ∃ F, PicPost n0 W hb ov ob cap F ext L e w') := Lib.hid fun W tp s => pictured_any s (by have := hx.len; omega) hx
  have hle4 : w.heap.size ≤ w.heap.size := Nat.le_refl _
  clear s hx hf
  go_enter Tryz.func31, Tryz.ntmps31
  go_wp2_with (first | ((with_reducible show wpList _ _ _ (⟨some 4, .alloc 73, _, _, _, _⟩ :: _) _ _); refine wpList_alloc_blk rfl 73 rfl sZero zero73 ?_; intro wa hB hL hs; replace cur := cur.push hL hB (Nat.le_refl _) rfl; clear hB hL hs) | (go_at_call 75; refine (fuel_any cur.s).mono ?_; rintro e wf ⟨rfl, rfl⟩) | (go_at_call 32; refine (refuel_any cur.s 1099511627776 (by decide)).mono ?_; rintro e wr ⟨rfl, s9, k9⟩; replace cur := cur.go s9 k9; clear s9 k9) | (go_at_call 77; refine (HC.out _ cur.s).mono ?_; rintro e wp ⟨F2, pv, tq, rfl, hpv, s9, k9⟩; replace cur := cur.go s9 k9; clear s9 k9) | ((with_reducible show wpList _ _ _ (⟨some 7, .alloc 73, _, _, _, _⟩ :: _) _ _); refine wpList_alloc_blk rfl 73 rfl sZero zero73 ?_; intro wb hB hL hs; have hle7 := cur.k.size; have hpv1 := hpv.below hL; have hone := hpv.one; replace cur := cur.push hL hB (Nat.le_refl _) rfl; clear hB hL hs) | ((with_reducible show wpList _ _ _ (⟨_, .store 73 (.tmp 7) _, _, _, _, _⟩ :: _) _ _); refine wpList_store_blk rfl 73 _ _ rfl _ (sArr 0 vN false pv) _ 73 rfl rfl (cur.blk 0 rfl) Tryz.size73 rfl (sArr_one hone) ?_; intro wc hB hO; have hpv2 := hpv1.free (cur.blk 0 rfl) hO (by decide); replace cur := cur.set 0 rfl hO hB hle7; clear hB hO))
  obtain ⟨b7, hb7⟩ : ∃ b, wp.heap.size = b := ⟨_, rfl⟩
  rw [hb7] at cur hle7 ⊢
  clear hb7 hpv hpv1
  replace hpv2 : PropsAt (World.drew _) pv (picL L) := hpv2.below (Below.refl _ _).drew
  refine Ord.region (fun W => Blk W b7 (sArr 0 vN false pv) 73) [4, 5, 6, 7, 9] (by kernel_rfl) (cur.drew.blk 0 rfl) ?_
  intro hS
  replace cur := cur.drew
  refine Ord.take (i := 0) 21 rfl rfl (by kernel_rfl) (by kernel_rfl) (by kernel_rfl) (by kernel_rfl) (fun _ _ _ h => h) (by assumption) (yieldsIf_load_mid (by rfl) 73 _ rfl b7 0 rfl ([.int .i64 0, .int .i64 vN.kind, .bool vN.bool, .float .f64 vN.num, .string vN.str, .int .i64 vN.id, .bool false, pv]) _ (fun W hSW => range_all hSW) Tryz.underlying73 rfl Tryz.size73) ?_
  try simp only [List.setIfInBounds_toArray, List.set_cons_zero, List.set_cons_succ]
  refine Ord.take (i := 1) (v := ?_) 22 rfl rfl (by kernel_rfl) (by kernel_rfl) (by kernel_rfl) (by kernel_rfl) (fun _ _ _ h => h) (by assumption) (Or.inl ⟨by rfl, ?_⟩) ?_
  rotate_left
  · (intro W hSW; first | (with_reducible rfl) | (go_simp; done) | (go_simp; with_reducible rfl))
  try simp only [List.setIfInBounds_toArray, List.set_cons_zero, List.set_cons_succ]
  refine Ord.take (i := 2) (v := ?_) 23 rfl rfl (by kernel_rfl) (by kernel_rfl) (by kernel_rfl) (by kernel_rfl) (fun _ _ _ h => h) (by assumption) (Or.inl ⟨by rfl, ?_⟩) ?_
  rotate_left
  · (intro W hSW; first | (with_reducible rfl) | (go_simp; done) | (go_simp; with_reducible rfl))
  try simp only [List.setIfInBounds_toArray, List.set_cons_zero, List.set_cons_succ]
  refine Ord.step (i := 3) rfl (by kernel_rfl) (by rfl) ?_
  intro K HK
  go_simp
  go_at_call 32
  refine (refuel_any cur.s fuel HF0.out).mono ?_
  rintro e wz ⟨rfl, s9, k9⟩
  replace cur := cur.go s9 k9
  replace hpv2 := hpv2.keeps k9
  refine HK.out _ _ ?_
  clear HK
  refine Ord.keep (S := fun W => Blk W b7 (sArr 0 vN false pv) 73) ?_ ?_
  · exact (cur.blk 0 rfl)
  clear hS
  intro hS
  try simp only [List.setIfInBounds_toArray, List.set_cons_zero, List.set_cons_succ]
  refine Ord.take_free (i := 4) (v := ?_) 25 rfl rfl (by kernel_rfl) (by kernel_rfl) (by kernel_rfl) (by kernel_rfl) (fun _ _ _ h => h) (by first | (intro _; assumption) | exact Ord.no_pend (S := fun W => Blk W b7 (sArr 0 vN false pv) 73) (by kernel_rfl)) (Or.inl ⟨by rfl, ?_⟩) ?_
  rotate_left
  · (intro W hSW; first | (with_reducible rfl) | (go_simp; done) | (go_simp; with_reducible rfl))
  try simp only [List.setIfInBounds_toArray, List.set_cons_zero, List.set_cons_succ]
  refine Ord.take_free (i := 5) (v := ?_) 26 rfl rfl (by kernel_rfl) (by kernel_rfl) (by kernel_rfl) (by kernel_rfl) (fun _ _ _ h => h) (by first | (intro _; assumption) | exact Ord.no_pend (S := fun W => Blk W b7 (sArr 0 vN false pv) 73) (by kernel_rfl)) (Or.inl ⟨by rfl, ?_⟩) ?_
  rotate_left
  · (intro W hSW; first | (with_reducible rfl) | (go_simp; done) | (go_simp; with_reducible rfl))
  try simp only [List.setIfInBounds_toArray, List.set_cons_zero, List.set_cons_succ]
  refine Ord.take_free (i := 6) (v := ?_) 27 rfl rfl (by kernel_rfl) (by kernel_rfl) (by kernel_rfl) (by kernel_rfl) (fun _ _ _ h => h) (by first | (intro _; assumption) | exact Ord.no_pend (S := fun W => Blk W b7 (sArr 0 vN false pv) 73) (by kernel_rfl)) (Or.inl ⟨by rfl, ?_⟩) ?_
  rotate_left
  · (intro W hSW; first | (with_reducible rfl) | (go_simp; done) | (go_simp; with_reducible rfl))
  try simp only [List.setIfInBounds_toArray, List.set_cons_zero, List.set_cons_succ]
  refine Ord.take_free (i := 7) (v := ?_) 28 rfl rfl (by kernel_rfl) (by kernel_rfl) (by kernel_rfl) (by kernel_rfl) (fun _ _ _ h => h) (by first | (intro _; assumption) | exact Ord.no_pend (S := fun W => Blk W b7 (sArr 0 vN false pv) 73) (by kernel_rfl)) (Or.inl ⟨by rfl, ?_⟩) ?_
  rotate_left
  · (intro W hSW; first | (with_reducible rfl) | (go_simp; done) | (go_simp; with_reducible rfl))
  try simp only [List.setIfInBounds_toArray, List.set_cons_zero, List.set_cons_succ]
  refine Ord.step (i := 8) rfl (by kernel_rfl) (by rfl) ?_
  intro K HK
  refine store_blk_op 73 (.tmp 4) (.tmp 21) rfl w.heap.size (sArr 0 vN false pv) sZero 73 rfl rfl (cur.blk 1 rfl) Tryz.size73 rfl (sArr_one hone) ?_
  intro w5 hB5 hO5
  replace hpv2 := hpv2.free (cur.blk 1 rfl) hO5 (by decide)
  replace cur := cur.set 1 rfl hO5 hB5 hle4
  refine HK.out _ _ ?_
  clear HK
  refine ⟨Ord.no_pend (S := fun W => Blk W b7 (sArr 0 vN false pv) 73) (by kernel_rfl), ?_⟩
  try simp only [List.setIfInBounds_toArray, List.set_cons_zero, List.set_cons_succ]
  refine Ord.take_free (i := 9) (v := ?_) 5 rfl rfl (by kernel_rfl) (by kernel_rfl) (by kernel_rfl) (by kernel_rfl) (fun _ _ _ h => h) (by first | (intro _; assumption) | exact Ord.no_pend (S := fun W => Blk W b7 (sArr 0 vN false pv) 73) (by kernel_rfl)) (Or.inl ⟨by rfl, ?_⟩) ?_
  rotate_left
  · (intro W hSW; first | (with_reducible rfl) | (go_simp; done) | (go_simp; with_reducible rfl))
  try simp only [List.setIfInBounds_toArray, List.set_cons_zero, List.set_cons_succ]
  refine Ord.done (by kernel_rfl) ?_ _
  clear hS
  have HPV := Lib.hid hpv2
  go_wp2
  exact bodyPost_ret (results_cell_tmp Tryz.results31 rfl (cur.blk 1 rfl) Tryz.row73 Tryz.size73) rfl ⟨pv, _, rfl, HPV.out, cur.s, cur.k⟩

end Go.Proofs.YtoalboilghgalaaGreatDoor
