import Derived.Test.YtkkcacpcicnihaaPal0
import Derived.Deep.DeepCutAuto
namespace Go.Proofs.Ytkkcacpcicnihaa
open Go.RowKit Go.Maps
open Go.Proofs.Cl

attribute [local go_sem] store_float

theorem ValsAt.drew {w : World} {A : Option Addr} {vs : List V} (h : ValsAt w A vs) : ValsAt w.drew A vs := h

/-- the match, its two maps filled so far -/
structure PInv (wc : World) (n m : Nat) (r s : List Nat) (k j : Nat) (wr : World) : Prop where
  m : MatchAt wr (wc.heap.size + 1 + 1) n m wc.heap.size (wc.heap.size + 1)
  m0 : IMap wr wc.heap.size k (idxMap r k)
  m1 : IMap wr (wc.heap.size + 1) j (idxMap s j)
  below : Below wc.heap.size wc wr
  size : wc.heap.size + 1 + 1 < wr.heap.size

theorem PInv.new (wc : World) (n m : Nat) (r s : List Nat) :
    PInv wc n m r s 0 0 (((wc.alloc (.map #[] 0)).alloc (.map #[] 0)).alloc (.cells (mCells n m wc.heap.size (wc.heap.size + 1)) 63)) where
  m := by
    have := matchAt_new ((wc.alloc (.map #[] 0)).alloc (.map #[] 0)) n m wc.heap.size (wc.heap.size + 1) 63
    have e : ((wc.alloc (.map #[] 0)).alloc (.map #[] 0)).heap.size = wc.heap.size + 1 + 1 := by simp
    rwa [e] at this
  m0 := ((World.ownsMap_made wc Try.prog 3 _).alloc _).alloc _
  m1 := by
    have := (World.ownsMap_made (H := Unit) (wc.alloc (.map #[] 0)) Try.prog 3 (plainElem Try.prog 3)).alloc (.cells (mCells n m wc.heap.size (wc.heap.size + 1)) 63)
    have e : (wc.alloc (.map #[] 0)).heap.size = wc.heap.size + 1 := by simp
    rw [e] at this
    exact this
  below := (((Below.refl _ _).alloc (Nat.le_refl _) _).alloc (by simp) _).alloc (by simp; omega) _
  size := by simp

theorem MatchAt.grown {w w' : World} {b n m b0 b1 : Nat} {row : Option Nat} (h : MatchAt w b n m b0 b1) (hg : w.grownBy w' row) (hne : some b ≠ row) : MatchAt w' b n m b0 b1 := by
  obtain ⟨h1, h2, h3, h4⟩ := h
  exact ⟨hg.cell h1 hne, hg.cell h2 hne, hg.cell h3 hne, hg.cell h4 hne⟩

theorem PInv.put0 {wc : World} {n m : Nat} {r s : List Nat} {k j : Nat} {wr w' : World} (h : PInv wc n m r s k j wr) (hm : IMap w' wc.heap.size (k + 1) (idxMap r (k + 1))) (hg : wr.grownBy w' (some wc.heap.size)) : PInv wc n m r s (k + 1) j w' := by
  have := h.size
  exact ⟨h.m.grown hg (by simp; omega), hm, h.m1.kept hg (by simp), h.below.grown hg (by omega) (fun j hj => by cases hj; exact Nat.le_refl _), by have := hg.size; omega⟩
theorem PInv.put1 {wc : World} {n m : Nat} {r s : List Nat} {k j : Nat} {wr w' : World} (h : PInv wc n m r s k j wr) (hm : IMap w' (wc.heap.size + 1) (j + 1) (idxMap s (j + 1))) (hg : wr.grownBy w' (some (wc.heap.size + 1))) : PInv wc n m r s k (j + 1) w' := by
  have := h.size
  exact ⟨h.m.grown hg (by simp), h.m0.kept hg (by simp), hm, h.below.grown hg (by omega) (fun j hj => by cases hj; omega), by have := hg.size; omega⟩
theorem PInv.keep {wc : World} {n m : Nat} {r s : List Nat} {k j : Nat} {wr w' : World} (h : PInv wc n m r s k j wr) (hb : Below wr.heap.size wr w') : PInv wc n m r s k j w' := by
  have := h.size
  exact ⟨h.m.below hb this, IMap.below h.m0 hb, IMap.below h.m1 hb, h.below.trans (hb.mono (by omega)), by have := hb.size; omega⟩

set_option maxRecDepth 100000 in
set_option maxHeartbeats 4000000 in
theorem palike_any (L M : Option Addr) (cl cm : Nat) (l m : List Sh) (a b : V) (w : World) (hL : ShapesAt w L l) (hM : ShapesAt w M m) (hn : l.length ≤ 200) (hm : m.length ≤ 200) :
    Calls Try.prog 7 #[.slice L l.length cl, vAgg a, .slice M m.length cm, vAgg b] w fun e w' => e = .returned (.bool (alike l a m b)) ∧ Below w.heap.size w w' := by
  have HL := Lib.hid hL
  have HM := Lib.hid hM
  have T0 := Two.new w a b
  have T0' := Lib.hid T0
  clear hL hM
  obtain ⟨x1, x2, x3, x4, x5, y1, y2, y3, y4, y5, _, hz⟩ := T0
  go_enter Try.func7, Try.ntmps7
  go_upto_region 1 with fail
  go_cut [9, 10] (fun v9 v10 wx => ∃ A c B d, v9 = .slice A (reach l [a]).length c ∧ v10 = .slice B (reach m [b]).length d ∧ NatsAt wx A (reach l [a]) ∧ NatsAt wx B (reach m [b]) ∧ Cl.Good l.length (reach l [a]) ∧ Cl.Good m.length (reach m [b]) ∧ Two w a b wx)
  case first =>
    clear x1 x2 x3 x4 x5 y1 y2 y3 y4 y5 hz
    generalize (w.alloc (.cells (vCells a) 25)).alloc (.cells (vCells b) 25) = w1 at *
    have T1 := T0'.out
    obtain ⟨x1, x2, x3, x4, x5, y1, y2, y3, y4, y5, _, hz⟩ := T1
    go_region_held3 (fun w' => w'.cell? ⟨w.heap.size, 0, none⟩ = some (.int .i64 a.kind) ∧ w'.cell? ⟨w.heap.size, 1, none⟩ = some (.bool a.bool) ∧ w'.cell? ⟨w.heap.size, 2, none⟩ = some (.float .f64 a.num) ∧ w'.cell? ⟨w.heap.size, 3, none⟩ = some (.string a.str) ∧ w'.cell? ⟨w.heap.size, 4, none⟩ = some (.int .i64 a.id) ∧ w'.cell? ⟨w.heap.size + 1, 0, none⟩ = some (.int .i64 b.kind) ∧ w'.cell? ⟨w.heap.size + 1, 1, none⟩ = some (.bool b.bool) ∧ w'.cell? ⟨w.heap.size + 1, 2, none⟩ = some (.float .f64 b.num) ∧ w'.cell? ⟨w.heap.size + 1, 3, none⟩ = some (.string b.str) ∧ w'.cell? ⟨w.heap.size + 1, 4, none⟩ = some (.int .i64 b.id) ∧ Below w.heap.size w w' ∧ w.heap.size + 2 ≤ w'.heap.size) (first | exact T0'.out.drew | exact Two.keep (by assumption) (by assumption) | exact Two.keep (by assumption) ((Below.refl _ _).alloc (Nat.le_refl _) _) | assumption)
      (first | (go_at_call_of 5 (Value.slice L l.length cl); refine (preach_out L _ cl 1 l [a] _ (HL.out.below (Two.below_ (by assumption))) ?_ hn (by simp)).mono ?_; (focus first | (refine (valsAt_one _ a _ ?_); simp; done) | (refine ValsAt.drew ((valsAt_one _ a _ ?_)); simp; done) | (refine (valsAt_one _ a _ ?_).alloc _; simp; done) | (refine ValsAt.drew ((valsAt_one _ a _ ?_).alloc _); simp; done) | (refine (valsAt_one _ a _ ?_).below hbM; simp; done) | (refine ((valsAt_one _ a _ ?_).alloc _).below hbM; simp; done) | (refine (ValsAt.drew ((valsAt_one _ a _ ?_).alloc _)).below hbM; simp; done) | (refine (ValsAt.drew (valsAt_one _ a _ ?_)).below hbM; simp; done)); rintro e wL ⟨A, c, rfl, hL, hgL, hbL⟩) | (go_at_call_of 5 (Value.slice M m.length cm); refine (preach_out M _ cm 1 m [b] _ (HM.out.below (Two.below_ (by assumption))) ?_ hm (by simp)).mono ?_; (focus first | (refine (valsAt_one _ b _ ?_); simp; done) | (refine ValsAt.drew ((valsAt_one _ b _ ?_)); simp; done) | (refine (valsAt_one _ b _ ?_).alloc _; simp; done) | (refine ValsAt.drew ((valsAt_one _ b _ ?_).alloc _); simp; done) | (refine (valsAt_one _ b _ ?_).below hbL; simp; done) | (refine ((valsAt_one _ b _ ?_).alloc _).below hbL; simp; done) | (refine (ValsAt.drew ((valsAt_one _ b _ ?_).alloc _)).below hbL; simp; done) | (refine (ValsAt.drew (valsAt_one _ b _ ?_)).below hbL; simp; done)); rintro e wM ⟨B, d, rfl, hM, hgM, hbM⟩))
    all_goals
      clear x1 x2 x3 x4 x5 y1 y2 y3 y4 y5 hz
      go_wp2_with fail
      go_meet
      refine ⟨A, c, B, d, rfl, rfl, ?_, ?_, hgL, hgM, by assumption⟩
      · first | exact hL | exact hL.below hbM | exact (NatsAt.alloc hL _).below hbM
      · first | exact hM | exact hM.below hbL | exact (NatsAt.alloc hM _).below hbL
  case rest =>
    clear x1 x2 x3 x4 x5 y1 y2 y3 y4 y5 hz T0'
    obtain ⟨A, c, B, d, rfl, rfl, hA, hB, hgA, hgB, hT⟩ := hcut
    have HA := Lib.hid hA
    have HB := Lib.hid hB
    have HGA := Lib.hid hgA
    have HGB := Lib.hid hgB
    have HT := Lib.hid hT
    have hal := Lib.hid (show alike l a m b = (((reach l [a]).length == (reach m [b]).length) && pSame l.length (reach l [a]) m.length (reach m [b]) a b &&
      (List.range (reach l [a]).length).all fun i => shapeSame l.length (reach l [a]) m.length (reach m [b]) (shAt l ((reach l [a]).getD i 0)) (shAt m ((reach m [b]).getD i 0))) from rfl)
    have lr := hgA.length_le
    have ls := hgB.length_le
    clear hA hB hgA hgB hT
    generalize reach l [a] = r at *
    generalize reach m [b] = s at *
    have P0 := Lib.hid (PInv.new wc l.length m.length r s)
    have hmm := @run_makeMap Try.prog
    go_wp2_with fail
    clear hmm
    go_loopw [36] (fun i wr => ∃ k : Nat, k ≤ r.length ∧ i = .int .i64 k ∧ PInv wc l.length m.length r s k 0 wr)
      (fun i _ => r.length - (intOf i).toNat)
    case atStart => exact ⟨0, Nat.zero_le _, rfl, P0.out⟩
    case round =>
      clear P0
      obtain ⟨k, hk, rfl, hP⟩ := hrel
      have HP := Lib.hid hP
      clear hP
      by_cases hlt : k < r.length
      · obtain ⟨bA, oA, rfl, hbA, hcA⟩ := HA.out k hlt
        have hcell := (HP.out.below.cell (p := ⟨bA, oA + k, none⟩) hbA).trans hcA
        have hle : r.getD k 0 ≤ 1000000 := by
          rw [List.getD_eq_getElem?_getD, List.getElem?_eq_getElem hlt]
          have := HGA.out.2 _ (List.getElem_mem hlt)
          simp; omega
        have hwv := Lib.hid (wf_nat (n := k) (by omega))
        have hwk := Lib.hid (wf_nat hle)
        obtain ⟨m1, m2, m3, m4⟩ := HP.out.m
        have hsx := Lib.hid (show idxMap r (k + 1) = (idxMap r k).put (.int .i64 ((r.getD k 0 : Nat) : Int)) (.lit (.int .i64 (k : Int))) from rfl)
        clear hle hcA
        generalize r.getD k 0 = x at *
        go_wp2_with (first
          | (at_mapUpdate; go_loud (refine wpList_mapUpdate_own _ rfl (.tmp 43) (.tmp 44) (.tmp 45) 60 rfl 3 3 law3 Try.underlying60 (plainElem Try.prog 3) wc.heap.size k (idxMap r k) rfl HP.out.m0 (by unfold maxLen; omega) _ _ _ rfl rfl (keyOf_int_mk Try.underlying3 hwk.out) _ [] (plainElem_int Try.underlying3 hwv.out) ?_; intro w' hown hgrow; have HP1 := Lib.hid (HP.out.put0 (by rw [hsx.out]; exact hown) hgrow); clear hown hgrow)))
        go_roundw
        case rel => exact ⟨k + 1, by omega, by go_num, HP1.out⟩
        case measure => simp [intOf]; omega
      · obtain rfl : k = r.length := by omega
        go_wp2_with fail
        go_loopw [49] (fun i wr => ∃ j : Nat, j ≤ s.length ∧ i = .int .i64 j ∧ PInv wc l.length m.length r s r.length j wr)
          (fun i _ => s.length - (intOf i).toNat)
        case atStart => exact ⟨0, Nat.zero_le _, rfl, HP.out⟩
        case round =>
          clear HP
          obtain ⟨j, hj, rfl, hP⟩ := hrel
          have HP := Lib.hid hP
          clear hP
          by_cases hlt2 : j < s.length
          · obtain ⟨bB, oB, rfl, hbB, hcB⟩ := HB.out j hlt2
            have hcell := (HP.out.below.cell (p := ⟨bB, oB + j, none⟩) hbB).trans hcB
            have hle : s.getD j 0 ≤ 1000000 := by
              rw [List.getD_eq_getElem?_getD, List.getElem?_eq_getElem hlt2]
              have := HGB.out.2 _ (List.getElem_mem hlt2)
              simp; omega
            have hwv := Lib.hid (wf_nat (n := j) (by omega))
            have hwk := Lib.hid (wf_nat hle)
            obtain ⟨m1, m2, m3, m4⟩ := HP.out.m
            have hsx := Lib.hid (show idxMap s (j + 1) = (idxMap s j).put (.int .i64 ((s.getD j 0 : Nat) : Int)) (.lit (.int .i64 (j : Int))) from rfl)
            clear hle hcB
            generalize s.getD j 0 = x at *
            go_wp2_with (first
              | (at_mapUpdate; go_loud (refine wpList_mapUpdate_own _ rfl (.tmp 56) (.tmp 57) (.tmp 58) 60 rfl 3 3 law3 Try.underlying60 (plainElem Try.prog 3) (wc.heap.size + 1) j (idxMap s j) rfl HP.out.m1 (by unfold maxLen; omega) _ _ _ rfl rfl (keyOf_int_mk Try.underlying3 hwk.out) _ [] (plainElem_int Try.underlying3 hwv.out) ?_; intro w' hown hgrow; have HP1 := Lib.hid (HP.out.put1 (by rw [hsx.out]; exact hown) hgrow); clear hown hgrow)))
            go_roundw
            case rel => exact ⟨j + 1, by omega, by go_num, HP1.out⟩
            case measure => simp [intOf]; omega
          · obtain rfl : j = s.length := by omega
            obtain ⟨x1, x2, x3, x4, x5, y1, y2, y3, y4, y5, _, hz⟩ := HT.out.keep (HP.out.below.mono (Nat.le_refl _))
            obtain ⟨m1, m2, m3, m4⟩ := HP.out.m
            by_cases hlen : ((r.length : Int) == (s.length : Int)) = true
            · have hlen' : r.length = s.length := by
                have := beq_iff_eq.1 hlen
                omega
              go_wp2_with (first
                | (go_at_call 21; refine (psame_any l.length m.length _ _ r s a b _ HP.out.m0 HP.out.m1 hn hm HGA.out HGB.out).mono ?_; rintro e w6 ⟨rfl, hb6⟩; have HP6 := Lib.hid (HP.out.keep hb6); clear hb6 x1 x2 x3 x4 x5 y1 y2 y3 y4 y5 m1 m2 m3 m4))
              · go_ret
                refine ⟨ret_b ?_, HT.out.below_.trans (HP6.out.below.mono HT.out.below_.size)⟩
                have h0 : pSame l.length r m.length s a b = false := by simpa using (show (!pSame l.length r m.length s a b) = true by assumption)
                rw [hal.out, h0]; simp
              · have h1 : pSame l.length r m.length s a b = true := by simpa using (show (!pSame l.length r m.length s a b) = false by assumption)
                have H1 := Lib.hid h1
                clear h1
                go_loopw [74] (fun i wr => ∃ k : Nat, k ≤ s.length ∧ i = .int .i64 k ∧ Below wc.heap.size wc wr ∧ PInv wc l.length m.length r s r.length s.length wr ∧ ∀ j, j < k → shapeSame l.length r m.length s (shAt l (r.getD j 0)) (shAt m (s.getD j 0)) = true)
                  (fun i _ => s.length - (intOf i).toNat)
                case atStart => exact ⟨0, Nat.zero_le _, rfl, HP6.out.below, HP6.out, fun j hj => absurd hj (by omega)⟩
                case round =>
                  clear HP6 HP
                  obtain ⟨k, hk, rfl, hb, hP, hall⟩ := hrel
                  have HP := Lib.hid hP
                  have HA2 := Lib.hid hall
                  have HBW := Lib.hid (HT.out.below_.trans (hb.mono HT.out.below_.size))
                  by_cases hlt3 : k < s.length
                  · obtain ⟨bA, oA, rfl, hbA, hcA⟩ := HA.out k (by omega)
                    obtain ⟨bB, oB, rfl, hbB, hcB⟩ := HB.out k hlt3
                    have hcellA := (hb.cell (p := ⟨bA, oA + k, none⟩) hbA).trans hcA
                    have hcellB := (hb.cell (p := ⟨bB, oB + k, none⟩) hbB).trans hcB
                    have hxr : 1 ≤ r.getD k 0 ∧ r.getD k 0 ≤ l.length := by
                      rw [List.getD_eq_getElem?_getD, List.getElem?_eq_getElem (show k < r.length by omega)]
                      exact HGA.out.2 _ (List.getElem_mem _)
                    have hys : 1 ≤ s.getD k 0 ∧ s.getD k 0 ≤ m.length := by
                      rw [List.getD_eq_getElem?_getD, List.getElem?_eq_getElem hlt3]
                      exact HGB.out.2 _ (List.getElem_mem _)
                    have HR := Lib.hid (show shapeSame l.length r m.length s (shAt l (r.getD k 0)) (shAt m (s.getD k 0)) = shapeSame l.length r m.length s (shAt l (r.getD k 0)) (shAt m (s.getD k 0)) from rfl)
                    have HN := Lib.hid (show shapeSame l.length r m.length s (shAt l (r.getD k 0)) (shAt m (s.getD k 0)) = false → ((List.range r.length).all fun i => shapeSame l.length r m.length s (shAt l (r.getD i 0)) (shAt m (s.getD i 0))) = false from fun h => by
                      rw [Bool.eq_false_iff]
                      intro hh
                      have := List.all_eq_true.1 hh k (by simp; omega)
                      rw [h] at this
                      cases this)
                    have HY := Lib.hid (show shapeSame l.length r m.length s (shAt l (r.getD k 0)) (shAt m (s.getD k 0)) = true → ∀ j, j < k + 1 → shapeSame l.length r m.length s (shAt l (r.getD j 0)) (shAt m (s.getD j 0)) = true from fun h j hj => by
                      rcases Nat.lt_or_ge j k with hj' | hj'
                      · exact HA2.out j hj'
                      · obtain rfl : j = k := by omega
                        exact h)
                    clear hcA hcB HR hall hP hb
                    generalize r.getD k 0 = xr at *
                    generalize s.getD k 0 = ys at *
                    obtain ⟨qx, rfl⟩ : ∃ q, xr = q + 1 := ⟨xr - 1, by omega⟩
                    obtain ⟨qy, rfl⟩ : ∃ q, ys = q + 1 := ⟨ys - 1, by omega⟩
                    have hqx : qx < l.length := by omega
                    have hqy : qy < m.length := by omega
                    rw [shAt_get l qx hqx, shAt_get m qy hqy] at HN HY
                    obtain ⟨bL, oL, rfl, hbL, P1, cp1, hra0, hpr, hpl⟩ := HL.out qx hqx
                    obtain ⟨bM, oM, rfl, hbM, P2, cp2, hrb0, hqr, hql⟩ := HM.out qy hqy
                    have hra := rangeAt_below hra0 HBW.out hbL
                    have hrb := rangeAt_below hrb0 HBW.out hbM
                    have HPR := Lib.hid (hpr.below HBW.out)
                    have HQR := Lib.hid (hqr.below HBW.out)
                    clear hra0 hrb0 hpr hqr hxr hys
                    generalize l[qx] = p at *
                    generalize m[qy] = q at *
                    have HS : Hid (∀ z : Later.Later wr, Calls Try.prog 22 #[mAgg l.length m.length wc.heap.size (wc.heap.size + 1), shAgg p P1 cp1, shAgg q P2 cp2] z.w fun e w' => e = .returned (.bool (shapeSame l.length r m.length s p q)) ∧ Below z.w.heap.size z.w w') := Lib.hid (fun z =>
                      shapes_any l.length m.length _ _ r s p q P1 P2 cp1 cp2 z.w (IMap.below HP.out.m0 z.ok) (IMap.below HP.out.m1 z.ok) hn hm HGA.out HGB.out (HPR.out.below z.ok) (HQR.out.below z.ok) hpl)
                    have a0 := hra 0 _ rfl
                    have a1 := hra 1 _ rfl
                    have a2 := hra 2 _ rfl
                    have a3 := hra 3 _ rfl
                    have a4 := hra 4 _ rfl
                    have a5 := hra 5 _ rfl
                    have a6 := hra 6 _ rfl
                    have a7 := hra 7 _ rfl
                    have c0 := hrb 0 _ rfl
                    have c1 := hrb 1 _ rfl
                    have c2 := hrb 2 _ rfl
                    have c3 := hrb 3 _ rfl
                    have c4 := hrb 4 _ rfl
                    have c5 := hrb 5 _ rfl
                    have c6 := hrb 6 _ rfl
                    have c7 := hrb 7 _ rfl
                    simp only [Nat.add_zero] at a0 c0
                    obtain ⟨m1, m2, m3, m4⟩ := HP.out.m
                    have hwx : IntKind.i64.wrap (qx : Int) = (qx : Int) := by rw [IntKind.wrap_i64]; omega
                    have hwy : IntKind.i64.wrap (qy : Int) = (qy : Int) := by rw [IntKind.wrap_i64]; omega
                    have hix : (qx : Int) < (l.length : Int) := by omega
                    have hiy : (qy : Int) < (m.length : Int) := by omega
                    have hik : (k : Int) < (s.length : Int) := by omega
                    clear hra hrb
                    go_wp2_with fail
                    have f0 := Later.cell a0
                    have f1 := Later.cell a1
                    have f2 := Later.cell a2
                    have f3 := Later.cell a3
                    have f4 := Later.cell a4
                    have f5 := Later.cell a5
                    have f6 := Later.cell a6
                    have f7 := Later.cell a7
                    have g0 := Later.cell c0
                    have g1 := Later.cell c1
                    have g2 := Later.cell c2
                    have g3 := Later.cell c3
                    have g4 := Later.cell c4
                    have g5 := Later.cell c5
                    have g6 := Later.cell c6
                    have g7 := Later.cell c7
                    have h1 := Later.cell m1
                    have h2 := Later.cell m2
                    have h3 := Later.cell m3
                    have h4 := Later.cell m4
                    have e1 := Later.cell hcellA
                    have e2 := Later.cell hcellB
                    clear a0 c0 a1 c1 a2 c2 a3 c3 a4 c4 a5 c5 a6 c6 a7 c7 m1 m2 m3 m4 hcellA hcellB
                    refine Later.region (by kernel_rfl) (by kernel_rfl) ?_
                    repeat (go_big_quiet_step (first | (go_at_call 22; with_reducible exact Later.call (HS.out _))))
                    refine wpQuiet_nil ?_
                    rintro w7 ⟨⟨_, hb7⟩, rfl⟩
                    have HB7 := Lib.hid hb7
                    clear f0 g0 f1 g1 f2 g2 f3 g3 f4 g4 f5 g5 f6 g6 f7 g7 h1 h2 h3 h4 e1 e2 hb7
                    generalize shapeSame l.length r m.length s p q = R at *
                    cases R
                    · go_wp2_with fail
                      go_ret
                      refine ⟨ret_b ?_, HBW.out.trans (HB7.out.mono HBW.out.size)⟩
                      rw [hal.out, HN.out (by first | rfl | trivial)]; simp
                    · go_wp2_with fail
                      go_roundw
                      case rel => exact ⟨k + 1, by omega, by go_num, (HP.out.keep HB7.out).below, HP.out.keep HB7.out, HY.out (by first | rfl | trivial)⟩
                      case measure => simp [intOf]; omega
                  · have hk' : k = s.length := by omega
                    subst hk'
                    go_wp2_with fail
                    go_ret
                    refine ⟨ret_b ?_, HBW.out⟩
                    rw [hal.out, hlen', H1.out]
                    symm
                    simp only [BEq.rfl, Bool.true_and]
                    exact List.all_eq_true.2 fun j hj => HA2.out j (by simpa using hj)
            · have hlen' : ((r.length : Int) == (s.length : Int)) = false := by simpa using hlen
              have hne : ¬ ((r.length : Int) = (s.length : Int)) := beq_eq_false_iff_ne.1 hlen'
              clear hlen
              go_wp2_with fail
              go_ret
              refine ⟨ret_b ?_, HT.out.below_.trans (HP.out.below.mono HT.out.below_.size)⟩
              rw [hal.out, show (r.length == s.length) = false from by
                rw [beq_eq_false_iff_ne] at hlen' ⊢
                omega]
              simp

end Go.Proofs.Ytkkcacpcicnihaa
