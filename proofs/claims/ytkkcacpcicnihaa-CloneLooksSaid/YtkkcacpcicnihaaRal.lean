import Derived.Test.YtkkcacpcicnihaaPal1
import Derived.Deep.LoopGhost
namespace Go.Proofs.Ytkkcacpcicnihaa
open Go.RowKit Go.Maps
open Go.Proofs.Cl

attribute [local go_sem] store_float lies_alloc lies_drew st_57_0 st_57_1 st_51_0 st_51_1
attribute [local go_sem ↓] load_57 store_57 load_51 store_51

/-- every number is a word -/
def Words (l : List Sh) : Prop := ∀ s ∈ l, ∀ v ∈ leadsOf s, v.num < 2 ^ 64

theorem mem_proto (s : Sh) : s.proto ∈ leadsOf s := by simp [leadsOf]
theorem mem_prop (s : Sh) (j : Nat) (h : j < s.props.length) : s.props[j].d.val ∈ leadsOf s ∧ s.props[j].d.get ∈ leadsOf s ∧ s.props[j].d.set ∈ leadsOf s := by
  unfold leadsOf
  refine ⟨?_, ?_, ?_⟩ <;> refine List.mem_cons_of_mem _ (List.mem_flatMap.2 ⟨s.props[j], List.getElem_mem h, by simp⟩)

theorem rsame_at (a b : V) (A B : Option Addr) (ca cb : Nat) (r s : List Nat) (k1 k2 : Nat) (h1 : k1 = r.length) (h2 : k2 = s.length) (n m : Nat) (w : World) (hA : NatsAt w A r) (hB : NatsAt w B s) (hr : Cl.Good n r) (hs : Cl.Good m s) (hn : n ≤ 200) (hm : m ≤ 200)
    (ha : Has n r a) (hb : Has m s b) (na : a.num < 2 ^ 64) (nb : b.num < 2 ^ 64) :
    Calls Try.prog 23 #[vAgg a, .slice A k1 ca, .int .i64 (n : Int), vAgg b, .slice B k2 cb, .int .i64 (m : Int)] w fun e w' => e = .returned (.bool (pSame n r m s a b)) ∧ Below w.heap.size w w' := by
  subst h1
  subst h2
  exact rsame_any a b A B ca cb r s n m w hA hB hr hs hn hm ha hb na nb

theorem Two2.of0 {w w1 : World} {C D : Array Value} {t : TypeId} (h : w1 = ((w.alloc (.cells C t)).alloc (.cells D t)).drew) : Two2 w w1 w.heap.size (w.heap.size + 1) C D := by rw [h]; exact Two2.mk1 w C D t

set_option maxRecDepth 100000 in
set_option maxHeartbeats 4000000 in
theorem ralike_any (L M : Option Addr) (cl cm : Nat) (l m : List Sh) (a b : V) (w : World) (hL : ShapesAt w L l) (hM : ShapesAt w M m) (hn : l.length ≤ 200) (hm : m.length ≤ 200)
    (na : a.num < 2 ^ 64) (nb : b.num < 2 ^ 64) (nl : Words l) (nm : Words m) :
    Calls Try.prog 8 #[.slice L l.length cl, vAgg a, .slice M m.length cm, vAgg b] w fun e w' => e = .returned (.bool (alike l a m b)) ∧ Below w.heap.size w w' := by
  have HL := Lib.hid hL
  have HM := Lib.hid hM
  have NL := Lib.hid nl
  have NM := Lib.hid nm
  have T0 := Two.new w a b
  have T0' := Lib.hid T0
  clear hL hM nl nm
  obtain ⟨x1, x2, x3, x4, x5, y1, y2, y3, y4, y5, _, hz⟩ := T0
  have hgl := Lib.hid (reach_good l [a])
  have hgm := Lib.hid (reach_good m [b])
  have hra := Lib.hid (reach_root l [a] a (by simp))
  have hrb := Lib.hid (reach_root m [b] b (by simp))
  have hla := Lib.hid (reach_leads l [a])
  have hlb := Lib.hid (reach_leads m [b])
  have hal := Lib.hid (show alike l a m b = (((reach l [a]).length == (reach m [b]).length) && pSame l.length (reach l [a]) m.length (reach m [b]) a b &&
      (List.range (reach l [a]).length).all fun i => shapeSame l.length (reach l [a]) m.length (reach m [b]) (shAt l ((reach l [a]).getD i 0)) (shAt m ((reach m [b]).getD i 0))) from rfl)
  have hcl := fun wX hX R hR => rreach_any L R cl 1 l [a] wX hX hR hn (by simp)
  have hcm := fun wX hX R hR => rreach_any M R cm 1 m [b] wX hX hR hm (by simp)
  have HCL := Lib.hid hcl
  have HCM := Lib.hid hcm
  have lr := (reach_good l [a]).length_le
  have ls := (reach_good m [b]).length_le
  clear hcl hcm
  generalize reach l [a] = r at *
  generalize reach m [b] = s at *
  by_cases hlen : r.length = s.length
  · have HLEN := Lib.hid hlen
    clear hlen
    go_enter Try.func8, Try.ntmps8
    go_upto_region 1 with fail
    generalize (w.alloc (.cells (vCells a) 25)).alloc (.cells (vCells b) 25) = w1 at *
    cases hps : pSame l.length r m.length s a b
    · have HPS := Lib.hid hps
      clear hps
      go_wp2_with (first
        | (go_at_call_of 6 (Value.slice L l.length cl); refine (HCL.out _ (HL.out.below (T0'.out.below_.alloc T0'.out.below_.size _)) _ (valsAt_one _ a _ rfl)).mono ?_; rintro e w2 ⟨A, c, rfl, hA, _, hbA⟩; rw [HLEN.out]; have T1 := T0'.out.keep (((Below.refl _ _).alloc (Nat.le_refl _) _).trans (hbA.mono (by simp))); have T1' := Lib.hid T1; have HA := Lib.hid hA; clear x1 x2 x3 x4 x5 y1 y2 y3 y4 y5 hz hA hbA; obtain ⟨x1, x2, x3, x4, x5, y1, y2, y3, y4, y5, _, hz⟩ := T1)
        | (go_at_call_of 6 (Value.slice M m.length cm); refine (HCM.out _ (HM.out.below (T1'.out.below_.alloc T1'.out.below_.size _)) _ (valsAt_one _ b _ rfl)).mono ?_; rintro e w3 ⟨B, d, rfl, hB, _, hbB⟩; have hk := ((Below.refl w2.heap.size w2).alloc (Nat.le_refl _) (.cells (vCells b) 25)).trans (hbB.mono (by simp)); have T2 := T1'.out.keep hk; have T2' := Lib.hid T2; have HB := Lib.hid hB; have HA := Lib.hid (HA.out.below hk); clear x1 x2 x3 x4 x5 y1 y2 y3 y4 y5 hz hB hbB hk; obtain ⟨x1, x2, x3, x4, x5, y1, y2, y3, y4, y5, _, hz⟩ := T2)
        | (go_at_call 23; refine (rsame_at a b A B c d r s _ _ HLEN.out.symm rfl l.length m.length _ HA.out HB.out hgl.out hgm.out hn hm hra.out hrb.out na nb).mono ?_; rintro e w4 ⟨rfl, hb4⟩; rw [HPS.out]; have HA := Lib.hid (HA.out.below hb4); have HB := Lib.hid (HB.out.below hb4); have HT := Lib.hid (T2'.out.keep hb4); clear x1 x2 x3 x4 x5 y1 y2 y3 y4 y5 hz hb4))
      go_ret
      refine ⟨ret_b ?_, HT.out.below_⟩
      rw [hal.out, HPS.out]; simp
    · have HPS := Lib.hid hps
      clear hps
      go_wp2_with (first
        | (go_at_call_of 6 (Value.slice L l.length cl); refine (HCL.out _ (HL.out.below (T0'.out.below_.alloc T0'.out.below_.size _)) _ (valsAt_one _ a _ rfl)).mono ?_; rintro e w2 ⟨A, c, rfl, hA, _, hbA⟩; rw [HLEN.out]; have T1 := T0'.out.keep (((Below.refl _ _).alloc (Nat.le_refl _) _).trans (hbA.mono (by simp))); have T1' := Lib.hid T1; have HA := Lib.hid hA; clear x1 x2 x3 x4 x5 y1 y2 y3 y4 y5 hz hA hbA; obtain ⟨x1, x2, x3, x4, x5, y1, y2, y3, y4, y5, _, hz⟩ := T1)
        | (go_at_call_of 6 (Value.slice M m.length cm); refine (HCM.out _ (HM.out.below (T1'.out.below_.alloc T1'.out.below_.size _)) _ (valsAt_one _ b _ rfl)).mono ?_; rintro e w3 ⟨B, d, rfl, hB, _, hbB⟩; have hk := ((Below.refl w2.heap.size w2).alloc (Nat.le_refl _) (.cells (vCells b) 25)).trans (hbB.mono (by simp)); have T2 := T1'.out.keep hk; have T2' := Lib.hid T2; have HB := Lib.hid hB; have HA := Lib.hid (HA.out.below hk); clear x1 x2 x3 x4 x5 y1 y2 y3 y4 y5 hz hB hbB hk; obtain ⟨x1, x2, x3, x4, x5, y1, y2, y3, y4, y5, _, hz⟩ := T2)
        | (go_at_call 23; refine (rsame_at a b A B c d r s _ _ HLEN.out.symm rfl l.length m.length _ HA.out HB.out hgl.out hgm.out hn hm hra.out hrb.out na nb).mono ?_; rintro e w4 ⟨rfl, hb4⟩; rw [HPS.out]; have HA := Lib.hid (HA.out.below hb4); have HB := Lib.hid (HB.out.below hb4); have HT := Lib.hid (T2'.out.keep hb4); clear x1 x2 x3 x4 x5 y1 y2 y3 y4 y5 hz hb4))
      clear HCL HCM T1' T2' T0' hra hrb
      have hrs1 : s.length ≤ r.length := Nat.le_of_eq HLEN.out.symm
      have hrs2 : r.length ≤ s.length := Nat.le_of_eq HLEN.out
      go_loopg [13] s.length (fun g i wr => ∃ k : Nat, g + k = s.length ∧ i = .int .i64 k ∧ Below w4.heap.size w4 wr ∧ ∀ j, j < k → shapeSame l.length r m.length s (shAt l (r.getD j 0)) (shAt m (s.getD j 0)) = true)
      case atStart => exact ⟨0, by omega, rfl, Below.refl _ _, fun j hj => absurd hj (by omega)⟩
      case round =>
        obtain ⟨k, hgk, rfl, hb, hall⟩ := hrel
        have HB0 := Lib.hid hb
        have HA2 := Lib.hid hall
        have HBW := Lib.hid (HT.out.below_.trans (hb.mono (by have := HT.out.below_.size; omega)))
        by_cases hlt3 : k < s.length
        · obtain ⟨bA, oA, rfl, hbA, hcA⟩ := HA.out k (by omega)
          obtain ⟨bB, oB, rfl, hbB, hcB⟩ := HB.out k hlt3
          have hcellA := (hb.cell (p := ⟨bA, oA + k, none⟩) hbA).trans hcA
          have hcellB := (hb.cell (p := ⟨bB, oB + k, none⟩) hbB).trans hcB
          have HA4 := Lib.hid (HA.out.below hb)
          have HB4 := Lib.hid (HB.out.below hb)
          have ixA := HA4.out k (by omega)
          have hxr : 1 ≤ r.getD k 0 ∧ r.getD k 0 ≤ l.length := by
            rw [List.getD_eq_getElem?_getD, List.getElem?_eq_getElem (show k < r.length by omega)]
            exact hgl.out.2 _ (List.getElem_mem _)
          have hys : 1 ≤ s.getD k 0 ∧ s.getD k 0 ≤ m.length := by
            rw [List.getD_eq_getElem?_getD, List.getElem?_eq_getElem hlt3]
            exact hgm.out.2 _ (List.getElem_mem _)
          have HN := Lib.hid (show shapeSame l.length r m.length s (shAt l (r.getD k 0)) (shAt m (s.getD k 0)) = false → alike l a m b = false from fun h => by
            rw [hal.out]
            have : ((List.range r.length).all fun i => shapeSame l.length r m.length s (shAt l (r.getD i 0)) (shAt m (s.getD i 0))) = false := by
              rw [Bool.eq_false_iff]
              intro hh
              have := List.all_eq_true.1 hh k (by simp; omega)
              rw [h] at this
              cases this
            rw [this, Bool.and_false])
          have HY := Lib.hid (show shapeSame l.length r m.length s (shAt l (r.getD k 0)) (shAt m (s.getD k 0)) = true → ∀ j, j < k + 1 → shapeSame l.length r m.length s (shAt l (r.getD j 0)) (shAt m (s.getD j 0)) = true from fun h j hj => by
            rcases Nat.lt_or_ge j k with hj' | hj'
            · exact HA2.out j hj'
            · obtain rfl : j = k := by omega
              exact h)
          have HPA := Lib.hid (show ∀ v ∈ leadsOf (shAt l (r.getD k 0)), Has l.length r v from fun v hv => hla.out k (by omega) v (by rw [List.getD_eq_getElem?_getD, List.getElem?_eq_getElem (show k < r.length by omega)] at hv; exact hv))
          have HQA := Lib.hid (show ∀ v ∈ leadsOf (shAt m (s.getD k 0)), Has m.length s v from fun v hv => hlb.out k hlt3 v (by rw [List.getD_eq_getElem?_getD, List.getElem?_eq_getElem hlt3] at hv; exact hv))
          clear hcA hcB hall ixA
          generalize r.getD k 0 = xr at *
          generalize s.getD k 0 = ys at *
          obtain ⟨qx, rfl⟩ : ∃ q, xr = q + 1 := ⟨xr - 1, by omega⟩
          obtain ⟨qy, rfl⟩ : ∃ q, ys = q + 1 := ⟨ys - 1, by omega⟩
          have hqx : qx < l.length := by omega
          have hqy : qy < m.length := by omega
          rw [shAt_get l qx hqx, shAt_get m qy hqy] at HN HY
          rw [shAt_get l qx hqx] at HPA
          rw [shAt_get m qy hqy] at HQA
          obtain ⟨bL, oL, rfl, hbL, P1, cp1, hra0, hpr, hpl⟩ := HL.out qx hqx
          obtain ⟨bM, oM, rfl, hbM, P2, cp2, hrb0, hqr, hql⟩ := HM.out qy hqy
          have hpa := rangeAt_below hra0 HBW.out hbL
          have hqa := rangeAt_below hrb0 HBW.out hbM
          have HPR := Lib.hid (hpr.below HBW.out)
          have HQR := Lib.hid (hqr.below HBW.out)
          have HPW := Lib.hid (NL.out l[qx] (List.getElem_mem hqx))
          have HQW := Lib.hid (NM.out m[qy] (List.getElem_mem hqy))
          clear hra0 hrb0 hpr hqr hxr hys
          generalize l[qx] = p at *
          generalize m[qy] = q at *
          obtain ⟨D1, eD1⟩ : ∃ C, C = (sCells p P1 cp1).toArray := ⟨_, rfl⟩
          obtain ⟨D2, eD2⟩ : ∃ C, C = (sCells q P2 cp2).toArray := ⟨_, rfl⟩
          have R1 : IsRow 8 D1 := by rw [eD1]; exact isRow_s p P1 cp1
          have R2 : IsRow 8 D2 := by rw [eD2]; exact isRow_s q P2 cp2
          have T1 := ld_row Try.size51 Try.row51 (b := bL) (off := oL + qx * 8) R1
          have T2 := ld_row Try.size51 Try.row51 (b := bM) (off := oM + qy * 8) R2
          have L1 : Lies wr bL (oL + qx * 8) D1 := by unfold Lies; rw [eD1]; exact hpa
          have L2 : Lies wr bM (oM + qy * 8) D2 := by unfold Lies; rw [eD2]; exact hqa
          have sz := HBW.out.size
          have sz4 := HT.out.below_.size
          have szb := hb.size
          have n1 : bL < wr.heap.size := by omega
          have n2 : bM < wr.heap.size := by omega
          have n3 : bL < wr.heap.size + 1 := by omega
          have n4 : bM < wr.heap.size + 1 := by omega
          have n5 : bA < wr.heap.size := by omega
          have n6 : bB < wr.heap.size := by omega
          have n7 : bA < wr.heap.size + 1 := by omega
          have n8 : bB < wr.heap.size + 1 := by omega
          have hwx : IntKind.i64.wrap (qx : Int) = (qx : Int) := by rw [IntKind.wrap_i64]; omega
          have hwy : IntKind.i64.wrap (qy : Int) = (qy : Int) := by rw [IntKind.wrap_i64]; omega
          have hix : (qx : Int) < (l.length : Int) := by omega
          have hiy : (qy : Int) < (m.length : Int) := by omega
          have hik : (k : Int) < (s.length : Int) := by omega
          have ED1 := Lib.hid eD1
          have ED2 := Lib.hid eD2
          clear hpa hqa eD1 eD2
          go_upto_region 9 with fail
          go_cut [14, 15] (fun s14 s15 wx => ∃ c1 c2, s14 = .pointer (some ⟨c1, 0, none⟩) ∧ s15 = .pointer (some ⟨c2, 0, none⟩) ∧ Two2 wr wx c1 c2 D1 D2)
          case first =>
            go_big_region
            all_goals
              go_wp2_with fail
              go_meet
              first | exact ⟨_, _, rfl, rfl, Two2.mk1 wr D1 D2 51⟩ | exact ⟨_, _, rfl, rfl, Two2.mk2 wr D1 D2 51⟩
          case rest =>
            obtain ⟨c1, c2, rfl, rfl, hT8⟩ := hcut
            have HT8 := Lib.hid hT8
            have HEX := Lib.hid (show shapeSame l.length r m.length s p q = false → false = alike l a m b from fun h => (HN.out h).symm)
            have HBW8 := Lib.hid (HBW.out.trans (hT8.below.mono sz))
            clear T1 T2 L1 L2 n1 n2 n3 n4 n5 n6 n7 n8 R1 R2 hwx hwy hix hiy hik hcellA hcellB sz sz4 szb hb
            have u1 := hT8.one
            have u2 := hT8.two
            rw [ED1.out] at u1
            rw [ED2.out] at u2
            have x0 := u1 0 _ rfl
            have x1 := u1 1 _ rfl
            have x2 := u1 2 _ rfl
            have x3 := u1 3 _ rfl
            have x4 := u1 4 _ rfl
            have x5 := u1 5 _ rfl
            have x6 := u1 6 _ rfl
            have x7 := u1 7 _ rfl
            have y0 := u2 0 _ rfl
            have y1 := u2 1 _ rfl
            have y2 := u2 2 _ rfl
            have y3 := u2 3 _ rfl
            have y4 := u2 4 _ rfl
            have y5 := u2 5 _ rfl
            have y6 := u2 6 _ rfl
            have y7 := u2 7 _ rfl
            simp only [Nat.zero_add] at x0 x1 x2 x3 x4 x5 x6 x7 y0 y1 y2 y3 y4 y5 y6 y7
            clear u1 u2 hT8
            obtain ⟨wo, rfl⟩ : ∃ wo, wo = wr := ⟨_, rfl⟩
            obtain ⟨wd, rfl⟩ : ∃ wd, wd = wc := ⟨_, rfl⟩
            by_cases hcls : p.cls = q.cls
            · rw [hcls] at x0
              have HCLS := Lib.hid hcls
              clear hcls
              by_cases hext : p.ext = q.ext
              · rw [hext] at x6
                have HEXT := Lib.hid hext
                clear hext
                by_cases hpl : p.props.length = q.props.length
                · rw [hpl] at x7
                  have HPL := Lib.hid hpl
                  clear hpl
                  cases hpp : pSame l.length r m.length s p.proto q.proto
                  · have HPP := Lib.hid hpp
                    clear hpp
                    go_wp2_with (first
                      | (go_at_call 23; refine (rsame_at p.proto q.proto _ _ c d r s _ _ HLEN.out.symm rfl l.length m.length _ (HA4.out.below HT8.out.below) (HB4.out.below HT8.out.below) hgl.out hgm.out hn hm (HPA.out _ (mem_proto p)) (HQA.out _ (mem_proto q)) (HPW.out _ (mem_proto p)) (HQW.out _ (mem_proto q))).mono ?_; rintro e w8 ⟨rfl, hb8⟩; rw [HPP.out]; have HT9 := Lib.hid (HT8.out.keep hb8); have HBW9 := Lib.hid (HBW8.out.trans (hb8.mono HBW8.out.size)); clear hb8 x0 x1 x2 x3 x4 x5 x6 x7 y0 y1 y2 y3 y4 y5 y6 y7; have u1 := HT9.out.one; have u2 := HT9.out.two; rw [ED1.out] at u1; rw [ED2.out] at u2; have x7 := u1 7 _ rfl; have y7 := u2 7 _ rfl; simp only [Nat.zero_add] at x7 y7; clear u1 u2))
                    go_ret
                    refine ⟨ret_b (HEX.out ?_), HBW9.out⟩
                    unfold shapeSame
                    rw [HPP.out]; simp
                  · have HPP := Lib.hid hpp
                    clear hpp
                    go_wp2_with (first
                      | (go_at_call 23; refine (rsame_at p.proto q.proto _ _ c d r s _ _ HLEN.out.symm rfl l.length m.length _ (HA4.out.below HT8.out.below) (HB4.out.below HT8.out.below) hgl.out hgm.out hn hm (HPA.out _ (mem_proto p)) (HQA.out _ (mem_proto q)) (HPW.out _ (mem_proto p)) (HQW.out _ (mem_proto q))).mono ?_; rintro e w8 ⟨rfl, hb8⟩; rw [HPP.out]; have HT9 := Lib.hid (HT8.out.keep hb8); have HBW9 := Lib.hid (HBW8.out.trans (hb8.mono HBW8.out.size)); clear hb8 x0 x1 x2 x3 x4 x5 x6 x7 y0 y1 y2 y3 y4 y5 y6 y7; have u1 := HT9.out.one; have u2 := HT9.out.two; rw [ED1.out] at u1; rw [ED2.out] at u2; have x7 := u1 7 _ rfl; have y7 := u2 7 _ rfl; simp only [Nat.zero_add] at x7 y7; clear u1 u2))
                    have HSH := Lib.hid (show shapeSame l.length r m.length s p q = propsSame l.length r m.length s p.props q.props by
                      unfold shapeSame
                      rw [HCLS.out, HEXT.out, HPL.out, HPP.out]; simp)
                    have hpl1 : q.props.length ≤ p.props.length := Nat.le_of_eq HPL.out.symm
                    have hpl3 : p.props.length ≤ q.props.length := Nat.le_of_eq HPL.out
                    clear x7 y7
                    go_loopg [16] q.props.length (fun g i wr => ∃ j : Nat, g + j = q.props.length ∧ i = .int .i64 j ∧ Two2 wo wr c1 c2 D1 D2 ∧ ∀ t, t < j → propSame l.length r m.length s (prAt p.props t) (prAt q.props t) = true)
                    case atStart => exact ⟨0, by omega, rfl, HT9.out, fun j hj => absurd hj (by omega)⟩
                    case round =>
                      clear HT9 HBW9 HT8 HBW8
                      obtain ⟨j, hgj, rfl, hT, hallj⟩ := hrel
                      have HT := Lib.hid hT
                      have HB5 := Lib.hid hT.below
                      have HBW5 := Lib.hid (HBW.out.trans (hT.below.mono HBW.out.size))
                      have HAJ := Lib.hid hallj
                      have u1 := hT.one
                      have u2 := hT.two
                      rw [ED1.out] at u1
                      rw [ED2.out] at u2
                      have x7 := u1 7 _ rfl
                      have y7 := u2 7 _ rfl
                      simp only [Nat.zero_add] at x7 y7
                      have n1 : c1 < wr.heap.size := by have := hT.hi1; have := hT.size; omega
                      have n2 : c2 < wr.heap.size := by have := hT.hi2; have := hT.size; omega
                      have szo := hT.below.size
                      clear hT hallj u1 u2
                      by_cases hlj : j < q.props.length
                      · obtain ⟨bP, oP, rfl, hbP, hpp⟩ := HPR.out j (by omega)
                        obtain ⟨bQ, oQ, rfl, hbQ, hqq⟩ := HQR.out j hlj
                        have hp2 := hpp.below HB5.out hbP
                        have hq2 := hqq.below HB5.out hbQ
                        have hpd := hp2.desc
                        have hqd := hq2.desc
                        have HPH := Lib.hid (show Has l.length r (p.props[j]'(by omega)).d.val ∧ Has l.length r (p.props[j]'(by omega)).d.get ∧ Has l.length r (p.props[j]'(by omega)).d.set from
                          have hh := mem_prop p j (by omega); ⟨HPA.out _ hh.1, HPA.out _ hh.2.1, HPA.out _ hh.2.2⟩)
                        have HQH := Lib.hid (show Has m.length s (q.props[j]'hlj).d.val ∧ Has m.length s (q.props[j]'hlj).d.get ∧ Has m.length s (q.props[j]'hlj).d.set from
                          have hh := mem_prop q j hlj; ⟨HQA.out _ hh.1, HQA.out _ hh.2.1, HQA.out _ hh.2.2⟩)
                        have HPN := Lib.hid (show (p.props[j]'(by omega)).d.val.num < 2 ^ 64 ∧ (p.props[j]'(by omega)).d.get.num < 2 ^ 64 ∧ (p.props[j]'(by omega)).d.set.num < 2 ^ 64 from
                          have hh := mem_prop p j (by omega); ⟨HPW.out _ hh.1, HPW.out _ hh.2.1, HPW.out _ hh.2.2⟩)
                        have HQN := Lib.hid (show (q.props[j]'hlj).d.val.num < 2 ^ 64 ∧ (q.props[j]'hlj).d.get.num < 2 ^ 64 ∧ (q.props[j]'hlj).d.set.num < 2 ^ 64 from
                          have hh := mem_prop q j hlj; ⟨HQW.out _ hh.1, HQW.out _ hh.2.1, HQW.out _ hh.2.2⟩)
                        have HE := Lib.hid (show propSame l.length r m.length s (p.props[j]'(by omega)) (q.props[j]'hlj) = false → false = alike l a m b from fun h => HEX.out (by
                          rw [HSH.out]
                          exact propsSame_false (show j < p.props.length by omega) (by rw [prAt_get p.props j (by omega), prAt_get q.props j hlj]; exact h)))
                        have HF := Lib.hid (show propSame l.length r m.length s (p.props[j]'(by omega)) (q.props[j]'hlj) = true → ∀ t, t < j + 1 → propSame l.length r m.length s (prAt p.props t) (prAt q.props t) = true from fun h t ht => by
                          rcases Nat.lt_or_ge t j with ht' | ht'
                          · exact HAJ.out t ht'
                          · obtain rfl : t = j := by omega
                            rw [prAt_get p.props t (by omega), prAt_get q.props t hlj]; exact h)
                        have k0 := hp2 0 _ rfl
                        have k1 := hp2 1 _ rfl
                        have g0 := hq2 0 _ rfl
                        have g1 := hq2 1 _ rfl
                        simp only [Nat.add_zero] at k0 g0
                        clear hpp hqq hp2 hq2
                        generalize p.props[j]'(by omega) = pj at *
                        generalize q.props[j]'hlj = qj at *
                        obtain ⟨E1, eE1⟩ : ∃ C, C = (dCells pj.d).toArray := ⟨_, rfl⟩
                        obtain ⟨E2, eE2⟩ : ∃ C, C = (dCells qj.d).toArray := ⟨_, rfl⟩
                        have R1 : IsRow 18 E1 := by rw [eE1]; exact isRow_d pj.d
                        have R2 : IsRow 18 E2 := by rw [eE2]; exact isRow_d qj.d
                        have T1 := ld_row Try.size57 Try.row57 (b := bP) (off := oP + j * 20 + 2) R1
                        have T2 := ld_row Try.size57 Try.row57 (b := bQ) (off := oQ + j * 20 + 2) R2
                        have L1 : Lies wr bP (oP + j * 20 + 2) E1 := by unfold Lies; rw [eE1]; exact hpd
                        have L2 : Lies wr bQ (oQ + j * 20 + 2) E2 := by unfold Lies; rw [eE2]; exact hqd
                        have n3 : c1 < wr.heap.size + 1 := by omega
                        have n4 : c2 < wr.heap.size + 1 := by omega
                        have n5 : bP < wr.heap.size := by omega
                        have n6 : bQ < wr.heap.size := by omega
                        have n7 : bP < wr.heap.size + 1 := by omega
                        have n8 : bQ < wr.heap.size + 1 := by omega
                        have hij : (j : Int) < (q.props.length : Int) := by omega
                        have EE1 := Lib.hid eE1
                        have EE2 := Lib.hid eE2
                        clear hpd hqd eE1 eE2
                        go_upto_region 15 with fail
                        go_cut [17, 18] (fun s17 s18 wx => ∃ d1 d2, s17 = .pointer (some ⟨d1, 0, none⟩) ∧ s18 = .pointer (some ⟨d2, 0, none⟩) ∧ Two2 wr wx d1 d2 E1 E2)
                        case first =>
                          go_big_region
                          all_goals
                            go_wp2_with fail
                            go_meet
                            first | exact ⟨_, _, rfl, rfl, Two2.mk1 wr E1 E2 57⟩ | exact ⟨_, _, rfl, rfl, Two2.mk2 wr E1 E2 57⟩
                        case rest =>
                          obtain ⟨d1, d2, rfl, rfl, hT6⟩ := hcut
                          have HT7 := Lib.hid (HT.out.keep hT6.below)
                          have H6 := Lib.hid hT6
                          have k0 := (hT6.below.cell (p := ⟨bP, oP + j * 20, none⟩) n5).trans k0
                          have k1 := (hT6.below.cell (p := ⟨bP, oP + j * 20 + 1, none⟩) n5).trans k1
                          have g0 := (hT6.below.cell (p := ⟨bQ, oQ + j * 20, none⟩) n6).trans g0
                          have g1 := (hT6.below.cell (p := ⟨bQ, oQ + j * 20 + 1, none⟩) n6).trans g1
                          have HBW6 := Lib.hid (HBW5.out.trans (hT6.below.mono (by have := HBW5.out.size; omega)))
                          clear T1 T2 L1 L2 R1 R2 n1 n2 n3 n4 n7 n8 x7 y7
                          have u1 := HT7.out.one
                          have u2 := HT7.out.two
                          rw [ED1.out] at u1
                          rw [ED2.out] at u2
                          have v1 := hT6.one
                          have v2 := hT6.two
                          rw [EE1.out] at v1
                          rw [EE2.out] at v2
                          have x7 := u1 7 _ rfl
                          have y7 := u2 7 _ rfl
                          have a15 := v1 15 _ rfl
                          have a16 := v1 16 _ rfl
                          have a17 := v1 17 _ rfl
                          have b15 := v2 15 _ rfl
                          have b16 := v2 16 _ rfl
                          have b17 := v2 17 _ rfl
                          simp only [Nat.zero_add] at x7 y7 a15 a16 a17 b15 b16 b17
                          rw [HPL.out] at x7
                          clear u1 u2 v1 v2 hT6 n5 n6
                          have five : (¬ pj.kstr.toList = qj.kstr.toList) ∨ (pj.kstr.toList = qj.kstr.toList ∧ (pj.ksym == qj.ksym) = false) ∨ (pj.kstr.toList = qj.kstr.toList ∧ pj.ksym = qj.ksym ∧ (pj.d.w == qj.d.w) = false) ∨
                              (pj.kstr.toList = qj.kstr.toList ∧ pj.ksym = qj.ksym ∧ pj.d.w = qj.d.w ∧ (pj.d.e == qj.d.e) = false) ∨ (pj.kstr.toList = qj.kstr.toList ∧ pj.ksym = qj.ksym ∧ pj.d.w = qj.d.w ∧ pj.d.e = qj.d.e ∧ (pj.d.c == qj.d.c) = false) ∨
                              (pj.kstr.toList = qj.kstr.toList ∧ pj.ksym = qj.ksym ∧ pj.d.w = qj.d.w ∧ pj.d.e = qj.d.e ∧ pj.d.c = qj.d.c) := by
                            simp only [beq_eq_false_iff_ne]
                            by_cases h1 : pj.kstr.toList = qj.kstr.toList <;> by_cases h2 : pj.ksym = qj.ksym <;> by_cases h3 : pj.d.w = qj.d.w <;> by_cases h4 : pj.d.e = qj.d.e <;> by_cases h5 : pj.d.c = qj.d.c <;> simp [h1, h2, h3, h4, h5]
                          have f1 := Later.cell x7
                          have f2 := Later.cell y7
                          have f3 := Later.cell k0
                          have f4 := Later.cell k1
                          have f5 := Later.cell g0
                          have f6 := Later.cell g1
                          have f7 := Later.cell a15
                          have f8 := Later.cell a16
                          have f9 := Later.cell a17
                          have f10 := Later.cell b15
                          have f11 := Later.cell b16
                          have f12 := Later.cell b17
                          clear x7 y7 k0 k1 g0 g1 a15 a16 a17 b15 b16 b17
                          go_wp2_with fail
                          rcases five with e1 | ⟨e1, e2⟩ | ⟨e1, e2, e3⟩ | ⟨e1, e2, e3, e4⟩ | ⟨e1, e2, e3, e4, e5⟩ | ⟨e1, e2, e3, e4, e5⟩
                          · have e6 : (pj.kstr.toList == qj.kstr.toList) = false := beq_eq_false_iff_ne.2 e1
                            refine Later.region (by kernel_rfl) (by kernel_rfl) ?_
                            repeat (go_big_quiet_step (fail))
                            refine wpQuiet_nil ?_
                            rintro w6 ⟨⟨_, hb6⟩, rfl⟩
                            have HBW7 := Lib.hid (HBW6.out.trans (hb6.mono HBW6.out.size))
                            have HT8 := Lib.hid (HT7.out.keep hb6)
                            have H7 := Lib.hid (H6.out.keep hb6)
                            clear f1 f2 f3 f4 f5 f6 f7 f8 f9 f10 f11 f12 hb6
                            go_wp2_with fail
                            go_ret
                            refine ⟨ret_b (HE.out ?_), HBW7.out⟩
                            unfold propSame keySame
                            simp [e1]
                          · have e6 : ¬ pj.ksym = qj.ksym := beq_eq_false_iff_ne.1 e2
                            refine Later.region (by kernel_rfl) (by kernel_rfl) ?_
                            repeat (go_big_quiet_step (fail))
                            refine wpQuiet_nil ?_
                            rintro w6 ⟨⟨_, hb6⟩, rfl⟩
                            have HBW7 := Lib.hid (HBW6.out.trans (hb6.mono HBW6.out.size))
                            have HT8 := Lib.hid (HT7.out.keep hb6)
                            have H7 := Lib.hid (H6.out.keep hb6)
                            clear f1 f2 f3 f4 f5 f6 f7 f8 f9 f10 f11 f12 hb6
                            go_wp2_with fail
                            go_ret
                            refine ⟨ret_b (HE.out ?_), HBW7.out⟩
                            unfold propSame keySame
                            simp [e1, e2]
                          · have e7 : (pj.d.w != qj.d.w) = true := by simp only [bne, e3, Bool.not_false]
                            refine Later.region (by kernel_rfl) (by kernel_rfl) ?_
                            repeat (go_big_quiet_step (fail))
                            refine wpQuiet_nil ?_
                            rintro w6 ⟨⟨_, hb6⟩, rfl⟩
                            have HBW7 := Lib.hid (HBW6.out.trans (hb6.mono HBW6.out.size))
                            have HT8 := Lib.hid (HT7.out.keep hb6)
                            have H7 := Lib.hid (H6.out.keep hb6)
                            clear f1 f2 f3 f4 f5 f6 f7 f8 f9 f10 f11 f12 hb6
                            go_wp2_with fail
                            go_ret
                            refine ⟨ret_b (HE.out ?_), HBW7.out⟩
                            unfold propSame keySame
                            simp [e1, e2, e3]
                          · have e7 : (pj.d.e != qj.d.e) = true := by simp only [bne, e4, Bool.not_false]
                            refine Later.region (by kernel_rfl) (by kernel_rfl) ?_
                            repeat (go_big_quiet_step (fail))
                            refine wpQuiet_nil ?_
                            rintro w6 ⟨⟨_, hb6⟩, rfl⟩
                            have HBW7 := Lib.hid (HBW6.out.trans (hb6.mono HBW6.out.size))
                            have HT8 := Lib.hid (HT7.out.keep hb6)
                            have H7 := Lib.hid (H6.out.keep hb6)
                            clear f1 f2 f3 f4 f5 f6 f7 f8 f9 f10 f11 f12 hb6
                            go_wp2_with fail
                            go_ret
                            refine ⟨ret_b (HE.out ?_), HBW7.out⟩
                            unfold propSame keySame
                            simp [e1, e2, e3, e4]
                          · refine Later.region (by kernel_rfl) (by kernel_rfl) ?_
                            repeat (go_big_quiet_step (fail))
                            refine wpQuiet_nil ?_
                            rintro w6 ⟨⟨_, hb6⟩, rfl⟩
                            have HBW7 := Lib.hid (HBW6.out.trans (hb6.mono HBW6.out.size))
                            have HT8 := Lib.hid (HT7.out.keep hb6)
                            have H7 := Lib.hid (H6.out.keep hb6)
                            clear f1 f2 f3 f4 f5 f6 f7 f8 f9 f10 f11 f12 hb6
                            go_wp2_with fail
                            go_ret
                            refine ⟨ret_b (HE.out ?_), HBW7.out⟩
                            unfold propSame keySame
                            simp [e1, e2, e3, e4, e5]
                          · refine Later.region (by kernel_rfl) (by kernel_rfl) ?_
                            repeat (go_big_quiet_step (fail))
                            refine wpQuiet_nil ?_
                            rintro w6 ⟨⟨_, hb6⟩, rfl⟩
                            have HBW7 := Lib.hid (HBW6.out.trans (hb6.mono HBW6.out.size))
                            have HT8 := Lib.hid (HT7.out.keep hb6)
                            have H7 := Lib.hid (H6.out.keep hb6)
                            clear f1 f2 f3 f4 f5 f6 f7 f8 f9 f10 f11 f12 hb6
                            have E := Lib.hid (And.intro e1 (And.intro e2 (And.intro e3 (And.intro e4 e5))))
                            clear e1 e2 e3 e4 e5
                            have v1 := H7.out.one; have v2 := H7.out.two; rw [EE1.out] at v1; rw [EE2.out] at v2; have a0 := v1 0 _ rfl; have a1 := v1 1 _ rfl; have a2 := v1 2 _ rfl; have a3 := v1 3 _ rfl; have a4 := v1 4 _ rfl; have a5 := v1 5 _ rfl; have a6 := v1 6 _ rfl; have a7 := v1 7 _ rfl; have a8 := v1 8 _ rfl; have a9 := v1 9 _ rfl; have a10 := v1 10 _ rfl; have a11 := v1 11 _ rfl; have a12 := v1 12 _ rfl; have a13 := v1 13 _ rfl; have a14 := v1 14 _ rfl; have b0 := v2 0 _ rfl; have b1 := v2 1 _ rfl; have b2 := v2 2 _ rfl; have b3 := v2 3 _ rfl; have b4 := v2 4 _ rfl; have b5 := v2 5 _ rfl; have b6 := v2 6 _ rfl; have b7 := v2 7 _ rfl; have b8 := v2 8 _ rfl; have b9 := v2 9 _ rfl; have b10 := v2 10 _ rfl; have b11 := v2 11 _ rfl; have b12 := v2 12 _ rfl; have b13 := v2 13 _ rfl; have b14 := v2 14 _ rfl; simp only [Nat.zero_add] at a0 b0 a1 b1 a2 b2 a3 b3 a4 b4 a5 b5 a6 b6 a7 b7 a8 b8 a9 b9 a10 b10 a11 b11 a12 b12 a13 b13 a14 b14; clear v1 v2
                            cases hv : pSame l.length r m.length s pj.d.val qj.d.val
                            · have HV := Lib.hid hv
                              have HG := Lib.hid hv
                              have HSS := Lib.hid hv
                              clear hv
                              go_wp2_with (first
                                  | (go_at_call_of 23 (Value.agg #[.int .i64 pj.d.val.kind, .bool pj.d.val.bool, .float .f64 pj.d.val.num, .string pj.d.val.str, .int .i64 pj.d.val.id]); go_loud ( refine (rsame_at pj.d.val qj.d.val _ _ c d r s _ _ HLEN.out.symm rfl l.length m.length _ (HA4.out.below HT8.out.below) (HB4.out.below HT8.out.below) hgl.out hgm.out hn hm HPH.out.1 HQH.out.1 HPN.out.1 HQN.out.1).mono ?_; rintro e w9 ⟨rfl, hb9⟩; rw [HV.out]; have HT8 := Lib.hid (HT8.out.keep hb9); have H7 := Lib.hid (H7.out.keep hb9); have HBW7 := Lib.hid (HBW7.out.trans (hb9.mono HBW7.out.size)); clear hb9; clear a0 b0 a1 b1 a2 b2 a3 b3 a4 b4 a5 b5 a6 b6 a7 b7 a8 b8 a9 b9 a10 b10 a11 b11 a12 b12 a13 b13 a14 b14; have v1 := H7.out.one; have v2 := H7.out.two; rw [EE1.out] at v1; rw [EE2.out] at v2; have a0 := v1 0 _ rfl; have a1 := v1 1 _ rfl; have a2 := v1 2 _ rfl; have a3 := v1 3 _ rfl; have a4 := v1 4 _ rfl; have a5 := v1 5 _ rfl; have a6 := v1 6 _ rfl; have a7 := v1 7 _ rfl; have a8 := v1 8 _ rfl; have a9 := v1 9 _ rfl; have a10 := v1 10 _ rfl; have a11 := v1 11 _ rfl; have a12 := v1 12 _ rfl; have a13 := v1 13 _ rfl; have a14 := v1 14 _ rfl; have b0 := v2 0 _ rfl; have b1 := v2 1 _ rfl; have b2 := v2 2 _ rfl; have b3 := v2 3 _ rfl; have b4 := v2 4 _ rfl; have b5 := v2 5 _ rfl; have b6 := v2 6 _ rfl; have b7 := v2 7 _ rfl; have b8 := v2 8 _ rfl; have b9 := v2 9 _ rfl; have b10 := v2 10 _ rfl; have b11 := v2 11 _ rfl; have b12 := v2 12 _ rfl; have b13 := v2 13 _ rfl; have b14 := v2 14 _ rfl; simp only [Nat.zero_add] at a0 b0 a1 b1 a2 b2 a3 b3 a4 b4 a5 b5 a6 b6 a7 b7 a8 b8 a9 b9 a10 b10 a11 b11 a12 b12 a13 b13 a14 b14; clear v1 v2))
                                  | (go_at_call_of 23 (Value.agg #[.int .i64 pj.d.get.kind, .bool pj.d.get.bool, .float .f64 pj.d.get.num, .string pj.d.get.str, .int .i64 pj.d.get.id]); go_loud ( refine (rsame_at pj.d.get qj.d.get _ _ c d r s _ _ HLEN.out.symm rfl l.length m.length _ (HA4.out.below HT8.out.below) (HB4.out.below HT8.out.below) hgl.out hgm.out hn hm HPH.out.2.1 HQH.out.2.1 HPN.out.2.1 HQN.out.2.1).mono ?_; rintro e w9 ⟨rfl, hb9⟩; rw [HG.out]; have HT8 := Lib.hid (HT8.out.keep hb9); have H7 := Lib.hid (H7.out.keep hb9); have HBW7 := Lib.hid (HBW7.out.trans (hb9.mono HBW7.out.size)); clear hb9; clear a0 b0 a1 b1 a2 b2 a3 b3 a4 b4 a5 b5 a6 b6 a7 b7 a8 b8 a9 b9 a10 b10 a11 b11 a12 b12 a13 b13 a14 b14; have v1 := H7.out.one; have v2 := H7.out.two; rw [EE1.out] at v1; rw [EE2.out] at v2; have a0 := v1 0 _ rfl; have a1 := v1 1 _ rfl; have a2 := v1 2 _ rfl; have a3 := v1 3 _ rfl; have a4 := v1 4 _ rfl; have a5 := v1 5 _ rfl; have a6 := v1 6 _ rfl; have a7 := v1 7 _ rfl; have a8 := v1 8 _ rfl; have a9 := v1 9 _ rfl; have a10 := v1 10 _ rfl; have a11 := v1 11 _ rfl; have a12 := v1 12 _ rfl; have a13 := v1 13 _ rfl; have a14 := v1 14 _ rfl; have b0 := v2 0 _ rfl; have b1 := v2 1 _ rfl; have b2 := v2 2 _ rfl; have b3 := v2 3 _ rfl; have b4 := v2 4 _ rfl; have b5 := v2 5 _ rfl; have b6 := v2 6 _ rfl; have b7 := v2 7 _ rfl; have b8 := v2 8 _ rfl; have b9 := v2 9 _ rfl; have b10 := v2 10 _ rfl; have b11 := v2 11 _ rfl; have b12 := v2 12 _ rfl; have b13 := v2 13 _ rfl; have b14 := v2 14 _ rfl; simp only [Nat.zero_add] at a0 b0 a1 b1 a2 b2 a3 b3 a4 b4 a5 b5 a6 b6 a7 b7 a8 b8 a9 b9 a10 b10 a11 b11 a12 b12 a13 b13 a14 b14; clear v1 v2))
                                  | (go_at_call_of 23 (Value.agg #[.int .i64 pj.d.set.kind, .bool pj.d.set.bool, .float .f64 pj.d.set.num, .string pj.d.set.str, .int .i64 pj.d.set.id]); go_loud ( refine (rsame_at pj.d.set qj.d.set _ _ c d r s _ _ HLEN.out.symm rfl l.length m.length _ (HA4.out.below HT8.out.below) (HB4.out.below HT8.out.below) hgl.out hgm.out hn hm HPH.out.2.2 HQH.out.2.2 HPN.out.2.2 HQN.out.2.2).mono ?_; rintro e w9 ⟨rfl, hb9⟩; rw [HSS.out]; have HT8 := Lib.hid (HT8.out.keep hb9); have H7 := Lib.hid (H7.out.keep hb9); have HBW7 := Lib.hid (HBW7.out.trans (hb9.mono HBW7.out.size)); clear hb9; clear a0 b0 a1 b1 a2 b2 a3 b3 a4 b4 a5 b5 a6 b6 a7 b7 a8 b8 a9 b9 a10 b10 a11 b11 a12 b12 a13 b13 a14 b14; have v1 := H7.out.one; have v2 := H7.out.two; rw [EE1.out] at v1; rw [EE2.out] at v2; have a0 := v1 0 _ rfl; have a1 := v1 1 _ rfl; have a2 := v1 2 _ rfl; have a3 := v1 3 _ rfl; have a4 := v1 4 _ rfl; have a5 := v1 5 _ rfl; have a6 := v1 6 _ rfl; have a7 := v1 7 _ rfl; have a8 := v1 8 _ rfl; have a9 := v1 9 _ rfl; have a10 := v1 10 _ rfl; have a11 := v1 11 _ rfl; have a12 := v1 12 _ rfl; have a13 := v1 13 _ rfl; have a14 := v1 14 _ rfl; have b0 := v2 0 _ rfl; have b1 := v2 1 _ rfl; have b2 := v2 2 _ rfl; have b3 := v2 3 _ rfl; have b4 := v2 4 _ rfl; have b5 := v2 5 _ rfl; have b6 := v2 6 _ rfl; have b7 := v2 7 _ rfl; have b8 := v2 8 _ rfl; have b9 := v2 9 _ rfl; have b10 := v2 10 _ rfl; have b11 := v2 11 _ rfl; have b12 := v2 12 _ rfl; have b13 := v2 13 _ rfl; have b14 := v2 14 _ rfl; simp only [Nat.zero_add] at a0 b0 a1 b1 a2 b2 a3 b3 a4 b4 a5 b5 a6 b6 a7 b7 a8 b8 a9 b9 a10 b10 a11 b11 a12 b12 a13 b13 a14 b14; clear v1 v2)))
                              go_ret
                              refine ⟨ret_b (HE.out ?_), HBW7.out⟩
                              unfold propSame
                              rw [HV.out]; simp
                            · have HV := Lib.hid hv
                              clear hv
                              cases hg : pSame l.length r m.length s pj.d.get qj.d.get
                              · have HG := Lib.hid hg
                                have HSS := Lib.hid hg
                                clear hg
                                go_wp2_with (first
                                    | (go_at_call_of 23 (Value.agg #[.int .i64 pj.d.val.kind, .bool pj.d.val.bool, .float .f64 pj.d.val.num, .string pj.d.val.str, .int .i64 pj.d.val.id]); go_loud ( refine (rsame_at pj.d.val qj.d.val _ _ c d r s _ _ HLEN.out.symm rfl l.length m.length _ (HA4.out.below HT8.out.below) (HB4.out.below HT8.out.below) hgl.out hgm.out hn hm HPH.out.1 HQH.out.1 HPN.out.1 HQN.out.1).mono ?_; rintro e w9 ⟨rfl, hb9⟩; rw [HV.out]; have HT8 := Lib.hid (HT8.out.keep hb9); have H7 := Lib.hid (H7.out.keep hb9); have HBW7 := Lib.hid (HBW7.out.trans (hb9.mono HBW7.out.size)); clear hb9; clear a0 b0 a1 b1 a2 b2 a3 b3 a4 b4 a5 b5 a6 b6 a7 b7 a8 b8 a9 b9 a10 b10 a11 b11 a12 b12 a13 b13 a14 b14; have v1 := H7.out.one; have v2 := H7.out.two; rw [EE1.out] at v1; rw [EE2.out] at v2; have a0 := v1 0 _ rfl; have a1 := v1 1 _ rfl; have a2 := v1 2 _ rfl; have a3 := v1 3 _ rfl; have a4 := v1 4 _ rfl; have a5 := v1 5 _ rfl; have a6 := v1 6 _ rfl; have a7 := v1 7 _ rfl; have a8 := v1 8 _ rfl; have a9 := v1 9 _ rfl; have a10 := v1 10 _ rfl; have a11 := v1 11 _ rfl; have a12 := v1 12 _ rfl; have a13 := v1 13 _ rfl; have a14 := v1 14 _ rfl; have b0 := v2 0 _ rfl; have b1 := v2 1 _ rfl; have b2 := v2 2 _ rfl; have b3 := v2 3 _ rfl; have b4 := v2 4 _ rfl; have b5 := v2 5 _ rfl; have b6 := v2 6 _ rfl; have b7 := v2 7 _ rfl; have b8 := v2 8 _ rfl; have b9 := v2 9 _ rfl; have b10 := v2 10 _ rfl; have b11 := v2 11 _ rfl; have b12 := v2 12 _ rfl; have b13 := v2 13 _ rfl; have b14 := v2 14 _ rfl; simp only [Nat.zero_add] at a0 b0 a1 b1 a2 b2 a3 b3 a4 b4 a5 b5 a6 b6 a7 b7 a8 b8 a9 b9 a10 b10 a11 b11 a12 b12 a13 b13 a14 b14; clear v1 v2))
                                    | (go_at_call_of 23 (Value.agg #[.int .i64 pj.d.get.kind, .bool pj.d.get.bool, .float .f64 pj.d.get.num, .string pj.d.get.str, .int .i64 pj.d.get.id]); go_loud ( refine (rsame_at pj.d.get qj.d.get _ _ c d r s _ _ HLEN.out.symm rfl l.length m.length _ (HA4.out.below HT8.out.below) (HB4.out.below HT8.out.below) hgl.out hgm.out hn hm HPH.out.2.1 HQH.out.2.1 HPN.out.2.1 HQN.out.2.1).mono ?_; rintro e w9 ⟨rfl, hb9⟩; rw [HG.out]; have HT8 := Lib.hid (HT8.out.keep hb9); have H7 := Lib.hid (H7.out.keep hb9); have HBW7 := Lib.hid (HBW7.out.trans (hb9.mono HBW7.out.size)); clear hb9; clear a0 b0 a1 b1 a2 b2 a3 b3 a4 b4 a5 b5 a6 b6 a7 b7 a8 b8 a9 b9 a10 b10 a11 b11 a12 b12 a13 b13 a14 b14; have v1 := H7.out.one; have v2 := H7.out.two; rw [EE1.out] at v1; rw [EE2.out] at v2; have a0 := v1 0 _ rfl; have a1 := v1 1 _ rfl; have a2 := v1 2 _ rfl; have a3 := v1 3 _ rfl; have a4 := v1 4 _ rfl; have a5 := v1 5 _ rfl; have a6 := v1 6 _ rfl; have a7 := v1 7 _ rfl; have a8 := v1 8 _ rfl; have a9 := v1 9 _ rfl; have a10 := v1 10 _ rfl; have a11 := v1 11 _ rfl; have a12 := v1 12 _ rfl; have a13 := v1 13 _ rfl; have a14 := v1 14 _ rfl; have b0 := v2 0 _ rfl; have b1 := v2 1 _ rfl; have b2 := v2 2 _ rfl; have b3 := v2 3 _ rfl; have b4 := v2 4 _ rfl; have b5 := v2 5 _ rfl; have b6 := v2 6 _ rfl; have b7 := v2 7 _ rfl; have b8 := v2 8 _ rfl; have b9 := v2 9 _ rfl; have b10 := v2 10 _ rfl; have b11 := v2 11 _ rfl; have b12 := v2 12 _ rfl; have b13 := v2 13 _ rfl; have b14 := v2 14 _ rfl; simp only [Nat.zero_add] at a0 b0 a1 b1 a2 b2 a3 b3 a4 b4 a5 b5 a6 b6 a7 b7 a8 b8 a9 b9 a10 b10 a11 b11 a12 b12 a13 b13 a14 b14; clear v1 v2))
                                    | (go_at_call_of 23 (Value.agg #[.int .i64 pj.d.set.kind, .bool pj.d.set.bool, .float .f64 pj.d.set.num, .string pj.d.set.str, .int .i64 pj.d.set.id]); go_loud ( refine (rsame_at pj.d.set qj.d.set _ _ c d r s _ _ HLEN.out.symm rfl l.length m.length _ (HA4.out.below HT8.out.below) (HB4.out.below HT8.out.below) hgl.out hgm.out hn hm HPH.out.2.2 HQH.out.2.2 HPN.out.2.2 HQN.out.2.2).mono ?_; rintro e w9 ⟨rfl, hb9⟩; rw [HSS.out]; have HT8 := Lib.hid (HT8.out.keep hb9); have H7 := Lib.hid (H7.out.keep hb9); have HBW7 := Lib.hid (HBW7.out.trans (hb9.mono HBW7.out.size)); clear hb9; clear a0 b0 a1 b1 a2 b2 a3 b3 a4 b4 a5 b5 a6 b6 a7 b7 a8 b8 a9 b9 a10 b10 a11 b11 a12 b12 a13 b13 a14 b14; have v1 := H7.out.one; have v2 := H7.out.two; rw [EE1.out] at v1; rw [EE2.out] at v2; have a0 := v1 0 _ rfl; have a1 := v1 1 _ rfl; have a2 := v1 2 _ rfl; have a3 := v1 3 _ rfl; have a4 := v1 4 _ rfl; have a5 := v1 5 _ rfl; have a6 := v1 6 _ rfl; have a7 := v1 7 _ rfl; have a8 := v1 8 _ rfl; have a9 := v1 9 _ rfl; have a10 := v1 10 _ rfl; have a11 := v1 11 _ rfl; have a12 := v1 12 _ rfl; have a13 := v1 13 _ rfl; have a14 := v1 14 _ rfl; have b0 := v2 0 _ rfl; have b1 := v2 1 _ rfl; have b2 := v2 2 _ rfl; have b3 := v2 3 _ rfl; have b4 := v2 4 _ rfl; have b5 := v2 5 _ rfl; have b6 := v2 6 _ rfl; have b7 := v2 7 _ rfl; have b8 := v2 8 _ rfl; have b9 := v2 9 _ rfl; have b10 := v2 10 _ rfl; have b11 := v2 11 _ rfl; have b12 := v2 12 _ rfl; have b13 := v2 13 _ rfl; have b14 := v2 14 _ rfl; simp only [Nat.zero_add] at a0 b0 a1 b1 a2 b2 a3 b3 a4 b4 a5 b5 a6 b6 a7 b7 a8 b8 a9 b9 a10 b10 a11 b11 a12 b12 a13 b13 a14 b14; clear v1 v2)))
                                go_ret
                                refine ⟨ret_b (HE.out ?_), HBW7.out⟩
                                unfold propSame
                                rw [HG.out]; simp
                              · have HG := Lib.hid hg
                                clear hg
                                cases hs3 : pSame l.length r m.length s pj.d.set qj.d.set
                                · have HSS := Lib.hid hs3
                                  clear hs3
                                  go_wp2_with (first
                                      | (go_at_call_of 23 (Value.agg #[.int .i64 pj.d.val.kind, .bool pj.d.val.bool, .float .f64 pj.d.val.num, .string pj.d.val.str, .int .i64 pj.d.val.id]); go_loud ( refine (rsame_at pj.d.val qj.d.val _ _ c d r s _ _ HLEN.out.symm rfl l.length m.length _ (HA4.out.below HT8.out.below) (HB4.out.below HT8.out.below) hgl.out hgm.out hn hm HPH.out.1 HQH.out.1 HPN.out.1 HQN.out.1).mono ?_; rintro e w9 ⟨rfl, hb9⟩; rw [HV.out]; have HT8 := Lib.hid (HT8.out.keep hb9); have H7 := Lib.hid (H7.out.keep hb9); have HBW7 := Lib.hid (HBW7.out.trans (hb9.mono HBW7.out.size)); clear hb9; clear a0 b0 a1 b1 a2 b2 a3 b3 a4 b4 a5 b5 a6 b6 a7 b7 a8 b8 a9 b9 a10 b10 a11 b11 a12 b12 a13 b13 a14 b14; have v1 := H7.out.one; have v2 := H7.out.two; rw [EE1.out] at v1; rw [EE2.out] at v2; have a0 := v1 0 _ rfl; have a1 := v1 1 _ rfl; have a2 := v1 2 _ rfl; have a3 := v1 3 _ rfl; have a4 := v1 4 _ rfl; have a5 := v1 5 _ rfl; have a6 := v1 6 _ rfl; have a7 := v1 7 _ rfl; have a8 := v1 8 _ rfl; have a9 := v1 9 _ rfl; have a10 := v1 10 _ rfl; have a11 := v1 11 _ rfl; have a12 := v1 12 _ rfl; have a13 := v1 13 _ rfl; have a14 := v1 14 _ rfl; have b0 := v2 0 _ rfl; have b1 := v2 1 _ rfl; have b2 := v2 2 _ rfl; have b3 := v2 3 _ rfl; have b4 := v2 4 _ rfl; have b5 := v2 5 _ rfl; have b6 := v2 6 _ rfl; have b7 := v2 7 _ rfl; have b8 := v2 8 _ rfl; have b9 := v2 9 _ rfl; have b10 := v2 10 _ rfl; have b11 := v2 11 _ rfl; have b12 := v2 12 _ rfl; have b13 := v2 13 _ rfl; have b14 := v2 14 _ rfl; simp only [Nat.zero_add] at a0 b0 a1 b1 a2 b2 a3 b3 a4 b4 a5 b5 a6 b6 a7 b7 a8 b8 a9 b9 a10 b10 a11 b11 a12 b12 a13 b13 a14 b14; clear v1 v2))
                                      | (go_at_call_of 23 (Value.agg #[.int .i64 pj.d.get.kind, .bool pj.d.get.bool, .float .f64 pj.d.get.num, .string pj.d.get.str, .int .i64 pj.d.get.id]); go_loud ( refine (rsame_at pj.d.get qj.d.get _ _ c d r s _ _ HLEN.out.symm rfl l.length m.length _ (HA4.out.below HT8.out.below) (HB4.out.below HT8.out.below) hgl.out hgm.out hn hm HPH.out.2.1 HQH.out.2.1 HPN.out.2.1 HQN.out.2.1).mono ?_; rintro e w9 ⟨rfl, hb9⟩; rw [HG.out]; have HT8 := Lib.hid (HT8.out.keep hb9); have H7 := Lib.hid (H7.out.keep hb9); have HBW7 := Lib.hid (HBW7.out.trans (hb9.mono HBW7.out.size)); clear hb9; clear a0 b0 a1 b1 a2 b2 a3 b3 a4 b4 a5 b5 a6 b6 a7 b7 a8 b8 a9 b9 a10 b10 a11 b11 a12 b12 a13 b13 a14 b14; have v1 := H7.out.one; have v2 := H7.out.two; rw [EE1.out] at v1; rw [EE2.out] at v2; have a0 := v1 0 _ rfl; have a1 := v1 1 _ rfl; have a2 := v1 2 _ rfl; have a3 := v1 3 _ rfl; have a4 := v1 4 _ rfl; have a5 := v1 5 _ rfl; have a6 := v1 6 _ rfl; have a7 := v1 7 _ rfl; have a8 := v1 8 _ rfl; have a9 := v1 9 _ rfl; have a10 := v1 10 _ rfl; have a11 := v1 11 _ rfl; have a12 := v1 12 _ rfl; have a13 := v1 13 _ rfl; have a14 := v1 14 _ rfl; have b0 := v2 0 _ rfl; have b1 := v2 1 _ rfl; have b2 := v2 2 _ rfl; have b3 := v2 3 _ rfl; have b4 := v2 4 _ rfl; have b5 := v2 5 _ rfl; have b6 := v2 6 _ rfl; have b7 := v2 7 _ rfl; have b8 := v2 8 _ rfl; have b9 := v2 9 _ rfl; have b10 := v2 10 _ rfl; have b11 := v2 11 _ rfl; have b12 := v2 12 _ rfl; have b13 := v2 13 _ rfl; have b14 := v2 14 _ rfl; simp only [Nat.zero_add] at a0 b0 a1 b1 a2 b2 a3 b3 a4 b4 a5 b5 a6 b6 a7 b7 a8 b8 a9 b9 a10 b10 a11 b11 a12 b12 a13 b13 a14 b14; clear v1 v2))
                                      | (go_at_call_of 23 (Value.agg #[.int .i64 pj.d.set.kind, .bool pj.d.set.bool, .float .f64 pj.d.set.num, .string pj.d.set.str, .int .i64 pj.d.set.id]); go_loud ( refine (rsame_at pj.d.set qj.d.set _ _ c d r s _ _ HLEN.out.symm rfl l.length m.length _ (HA4.out.below HT8.out.below) (HB4.out.below HT8.out.below) hgl.out hgm.out hn hm HPH.out.2.2 HQH.out.2.2 HPN.out.2.2 HQN.out.2.2).mono ?_; rintro e w9 ⟨rfl, hb9⟩; rw [HSS.out]; have HT8 := Lib.hid (HT8.out.keep hb9); have H7 := Lib.hid (H7.out.keep hb9); have HBW7 := Lib.hid (HBW7.out.trans (hb9.mono HBW7.out.size)); clear hb9; clear a0 b0 a1 b1 a2 b2 a3 b3 a4 b4 a5 b5 a6 b6 a7 b7 a8 b8 a9 b9 a10 b10 a11 b11 a12 b12 a13 b13 a14 b14; have v1 := H7.out.one; have v2 := H7.out.two; rw [EE1.out] at v1; rw [EE2.out] at v2; have a0 := v1 0 _ rfl; have a1 := v1 1 _ rfl; have a2 := v1 2 _ rfl; have a3 := v1 3 _ rfl; have a4 := v1 4 _ rfl; have a5 := v1 5 _ rfl; have a6 := v1 6 _ rfl; have a7 := v1 7 _ rfl; have a8 := v1 8 _ rfl; have a9 := v1 9 _ rfl; have a10 := v1 10 _ rfl; have a11 := v1 11 _ rfl; have a12 := v1 12 _ rfl; have a13 := v1 13 _ rfl; have a14 := v1 14 _ rfl; have b0 := v2 0 _ rfl; have b1 := v2 1 _ rfl; have b2 := v2 2 _ rfl; have b3 := v2 3 _ rfl; have b4 := v2 4 _ rfl; have b5 := v2 5 _ rfl; have b6 := v2 6 _ rfl; have b7 := v2 7 _ rfl; have b8 := v2 8 _ rfl; have b9 := v2 9 _ rfl; have b10 := v2 10 _ rfl; have b11 := v2 11 _ rfl; have b12 := v2 12 _ rfl; have b13 := v2 13 _ rfl; have b14 := v2 14 _ rfl; simp only [Nat.zero_add] at a0 b0 a1 b1 a2 b2 a3 b3 a4 b4 a5 b5 a6 b6 a7 b7 a8 b8 a9 b9 a10 b10 a11 b11 a12 b12 a13 b13 a14 b14; clear v1 v2)))
                                  go_ret
                                  refine ⟨ret_b (HE.out ?_), HBW7.out⟩
                                  unfold propSame
                                  rw [HSS.out]; simp
                                · have HSS := Lib.hid hs3
                                  clear hs3
                                  go_wp2_with (first
                                      | (go_at_call_of 23 (Value.agg #[.int .i64 pj.d.val.kind, .bool pj.d.val.bool, .float .f64 pj.d.val.num, .string pj.d.val.str, .int .i64 pj.d.val.id]); go_loud ( refine (rsame_at pj.d.val qj.d.val _ _ c d r s _ _ HLEN.out.symm rfl l.length m.length _ (HA4.out.below HT8.out.below) (HB4.out.below HT8.out.below) hgl.out hgm.out hn hm HPH.out.1 HQH.out.1 HPN.out.1 HQN.out.1).mono ?_; rintro e w9 ⟨rfl, hb9⟩; rw [HV.out]; have HT8 := Lib.hid (HT8.out.keep hb9); have H7 := Lib.hid (H7.out.keep hb9); have HBW7 := Lib.hid (HBW7.out.trans (hb9.mono HBW7.out.size)); clear hb9; clear a0 b0 a1 b1 a2 b2 a3 b3 a4 b4 a5 b5 a6 b6 a7 b7 a8 b8 a9 b9 a10 b10 a11 b11 a12 b12 a13 b13 a14 b14; have v1 := H7.out.one; have v2 := H7.out.two; rw [EE1.out] at v1; rw [EE2.out] at v2; have a0 := v1 0 _ rfl; have a1 := v1 1 _ rfl; have a2 := v1 2 _ rfl; have a3 := v1 3 _ rfl; have a4 := v1 4 _ rfl; have a5 := v1 5 _ rfl; have a6 := v1 6 _ rfl; have a7 := v1 7 _ rfl; have a8 := v1 8 _ rfl; have a9 := v1 9 _ rfl; have a10 := v1 10 _ rfl; have a11 := v1 11 _ rfl; have a12 := v1 12 _ rfl; have a13 := v1 13 _ rfl; have a14 := v1 14 _ rfl; have b0 := v2 0 _ rfl; have b1 := v2 1 _ rfl; have b2 := v2 2 _ rfl; have b3 := v2 3 _ rfl; have b4 := v2 4 _ rfl; have b5 := v2 5 _ rfl; have b6 := v2 6 _ rfl; have b7 := v2 7 _ rfl; have b8 := v2 8 _ rfl; have b9 := v2 9 _ rfl; have b10 := v2 10 _ rfl; have b11 := v2 11 _ rfl; have b12 := v2 12 _ rfl; have b13 := v2 13 _ rfl; have b14 := v2 14 _ rfl; simp only [Nat.zero_add] at a0 b0 a1 b1 a2 b2 a3 b3 a4 b4 a5 b5 a6 b6 a7 b7 a8 b8 a9 b9 a10 b10 a11 b11 a12 b12 a13 b13 a14 b14; clear v1 v2))
                                      | (go_at_call_of 23 (Value.agg #[.int .i64 pj.d.get.kind, .bool pj.d.get.bool, .float .f64 pj.d.get.num, .string pj.d.get.str, .int .i64 pj.d.get.id]); go_loud ( refine (rsame_at pj.d.get qj.d.get _ _ c d r s _ _ HLEN.out.symm rfl l.length m.length _ (HA4.out.below HT8.out.below) (HB4.out.below HT8.out.below) hgl.out hgm.out hn hm HPH.out.2.1 HQH.out.2.1 HPN.out.2.1 HQN.out.2.1).mono ?_; rintro e w9 ⟨rfl, hb9⟩; rw [HG.out]; have HT8 := Lib.hid (HT8.out.keep hb9); have H7 := Lib.hid (H7.out.keep hb9); have HBW7 := Lib.hid (HBW7.out.trans (hb9.mono HBW7.out.size)); clear hb9; clear a0 b0 a1 b1 a2 b2 a3 b3 a4 b4 a5 b5 a6 b6 a7 b7 a8 b8 a9 b9 a10 b10 a11 b11 a12 b12 a13 b13 a14 b14; have v1 := H7.out.one; have v2 := H7.out.two; rw [EE1.out] at v1; rw [EE2.out] at v2; have a0 := v1 0 _ rfl; have a1 := v1 1 _ rfl; have a2 := v1 2 _ rfl; have a3 := v1 3 _ rfl; have a4 := v1 4 _ rfl; have a5 := v1 5 _ rfl; have a6 := v1 6 _ rfl; have a7 := v1 7 _ rfl; have a8 := v1 8 _ rfl; have a9 := v1 9 _ rfl; have a10 := v1 10 _ rfl; have a11 := v1 11 _ rfl; have a12 := v1 12 _ rfl; have a13 := v1 13 _ rfl; have a14 := v1 14 _ rfl; have b0 := v2 0 _ rfl; have b1 := v2 1 _ rfl; have b2 := v2 2 _ rfl; have b3 := v2 3 _ rfl; have b4 := v2 4 _ rfl; have b5 := v2 5 _ rfl; have b6 := v2 6 _ rfl; have b7 := v2 7 _ rfl; have b8 := v2 8 _ rfl; have b9 := v2 9 _ rfl; have b10 := v2 10 _ rfl; have b11 := v2 11 _ rfl; have b12 := v2 12 _ rfl; have b13 := v2 13 _ rfl; have b14 := v2 14 _ rfl; simp only [Nat.zero_add] at a0 b0 a1 b1 a2 b2 a3 b3 a4 b4 a5 b5 a6 b6 a7 b7 a8 b8 a9 b9 a10 b10 a11 b11 a12 b12 a13 b13 a14 b14; clear v1 v2))
                                      | (go_at_call_of 23 (Value.agg #[.int .i64 pj.d.set.kind, .bool pj.d.set.bool, .float .f64 pj.d.set.num, .string pj.d.set.str, .int .i64 pj.d.set.id]); go_loud ( refine (rsame_at pj.d.set qj.d.set _ _ c d r s _ _ HLEN.out.symm rfl l.length m.length _ (HA4.out.below HT8.out.below) (HB4.out.below HT8.out.below) hgl.out hgm.out hn hm HPH.out.2.2 HQH.out.2.2 HPN.out.2.2 HQN.out.2.2).mono ?_; rintro e w9 ⟨rfl, hb9⟩; rw [HSS.out]; have HT8 := Lib.hid (HT8.out.keep hb9); have H7 := Lib.hid (H7.out.keep hb9); have HBW7 := Lib.hid (HBW7.out.trans (hb9.mono HBW7.out.size)); clear hb9; clear a0 b0 a1 b1 a2 b2 a3 b3 a4 b4 a5 b5 a6 b6 a7 b7 a8 b8 a9 b9 a10 b10 a11 b11 a12 b12 a13 b13 a14 b14; have v1 := H7.out.one; have v2 := H7.out.two; rw [EE1.out] at v1; rw [EE2.out] at v2; have a0 := v1 0 _ rfl; have a1 := v1 1 _ rfl; have a2 := v1 2 _ rfl; have a3 := v1 3 _ rfl; have a4 := v1 4 _ rfl; have a5 := v1 5 _ rfl; have a6 := v1 6 _ rfl; have a7 := v1 7 _ rfl; have a8 := v1 8 _ rfl; have a9 := v1 9 _ rfl; have a10 := v1 10 _ rfl; have a11 := v1 11 _ rfl; have a12 := v1 12 _ rfl; have a13 := v1 13 _ rfl; have a14 := v1 14 _ rfl; have b0 := v2 0 _ rfl; have b1 := v2 1 _ rfl; have b2 := v2 2 _ rfl; have b3 := v2 3 _ rfl; have b4 := v2 4 _ rfl; have b5 := v2 5 _ rfl; have b6 := v2 6 _ rfl; have b7 := v2 7 _ rfl; have b8 := v2 8 _ rfl; have b9 := v2 9 _ rfl; have b10 := v2 10 _ rfl; have b11 := v2 11 _ rfl; have b12 := v2 12 _ rfl; have b13 := v2 13 _ rfl; have b14 := v2 14 _ rfl; simp only [Nat.zero_add] at a0 b0 a1 b1 a2 b2 a3 b3 a4 b4 a5 b5 a6 b6 a7 b7 a8 b8 a9 b9 a10 b10 a11 b11 a12 b12 a13 b13 a14 b14; clear v1 v2)))
                                  go_roundg (q.props.length - (j + 1))
                                  case measure => omega
                                  case rel =>
                                    refine ⟨j + 1, by omega, by go_num, HT8.out, HF.out ?_⟩
                                    obtain ⟨e1, e2, e3, e4, e5⟩ := E.out
                                    unfold propSame keySame
                                    rw [HV.out, HG.out, HSS.out]
                                    simp [e1, e2, e3, e4, e5]
                      · obtain rfl : j = q.props.length := by omega
                        go_wp2_with fail
                        go_roundg (s.length - (k + 1))
                        case measure => omega
                        case rel =>
                          refine ⟨k + 1, by omega, by go_num, HB0.out.trans (HB5.out.mono HB0.out.size), HY.out ?_⟩
                          · rw [HSH.out]
                            exact propsSame_true fun t ht => HAJ.out t (by omega)
                · have h1 : ¬ (p.props.length : Int) = (q.props.length : Int) := by omega
                  have h2 : ((p.props.length : Int) == (q.props.length : Int)) = false := beq_eq_false_iff_ne.2 h1
                  go_wp2_with fail
                  go_ret
                  refine ⟨ret_b (HEX.out ?_), HBW8.out⟩
                  unfold shapeSame
                  rw [show (p.props.length == q.props.length) = false from beq_eq_false_iff_ne.2 hpl]; simp
              · have h2 : (p.ext == q.ext) = false := beq_eq_false_iff_ne.2 hext
                go_wp2_with fail
                go_ret
                refine ⟨ret_b (HEX.out ?_), HBW8.out⟩
                unfold shapeSame
                rw [h2]; simp
            · have h2 : (p.cls == q.cls) = false := beq_eq_false_iff_ne.2 hcls
              go_wp2_with fail
              go_ret
              refine ⟨ret_b (HEX.out ?_), HBW8.out⟩
              unfold shapeSame
              rw [h2]; simp
        · obtain rfl : k = s.length := by omega
          go_wp2_with fail
          go_ret
          refine ⟨ret_b ?_, HBW.out⟩
          rw [hal.out, HLEN.out, HPS.out]
          symm
          simp only [BEq.rfl, Bool.true_and]
          exact List.all_eq_true.2 fun j hj => HA2.out j (by have := List.mem_range.1 hj; omega)
  · have h1 : ¬ (r.length : Int) = (s.length : Int) := by omega
    have h2 : ((r.length : Int) == (s.length : Int)) = false := beq_eq_false_iff_ne.2 h1
    go_enter Try.func8, Try.ntmps8
    go_upto_region 1 with fail
    generalize (w.alloc (.cells (vCells a) 25)).alloc (.cells (vCells b) 25) = w1 at *
    go_wp2_with (first
      | (go_at_call_of 6 (Value.slice L l.length cl); refine (HCL.out _ (HL.out.below (T0'.out.below_.alloc T0'.out.below_.size _)) _ (valsAt_one _ a _ rfl)).mono ?_; rintro e w2 ⟨A, c, rfl, hA, _, hbA⟩; have T1 := T0'.out.keep (((Below.refl _ _).alloc (Nat.le_refl _) _).trans (hbA.mono (by simp))); have T1' := Lib.hid T1; have HA := Lib.hid hA; clear x1 x2 x3 x4 x5 y1 y2 y3 y4 y5 hz hA hbA; obtain ⟨x1, x2, x3, x4, x5, y1, y2, y3, y4, y5, _, hz⟩ := T1)
      | (go_at_call_of 6 (Value.slice M m.length cm); refine (HCM.out _ (HM.out.below (T1'.out.below_.alloc T1'.out.below_.size _)) _ (valsAt_one _ b _ rfl)).mono ?_; rintro e w3 ⟨B, d, rfl, hB, _, hbB⟩; have hk := ((Below.refl w2.heap.size w2).alloc (Nat.le_refl _) (.cells (vCells b) 25)).trans (hbB.mono (by simp)); have T2 := T1'.out.keep hk; have T2' := Lib.hid T2; have HB := Lib.hid hB; have HA := Lib.hid (HA.out.below hk); clear x1 x2 x3 x4 x5 y1 y2 y3 y4 y5 hz hB hbB hk; obtain ⟨x1, x2, x3, x4, x5, y1, y2, y3, y4, y5, _, hz⟩ := T2))
    go_ret
    refine ⟨ret_b ?_, T2'.out.below_⟩
    rw [hal.out, show (r.length == s.length) = false from beq_eq_false_iff_ne.2 hlen]; simp

end Go.Proofs.Ytkkcacpcicnihaa
