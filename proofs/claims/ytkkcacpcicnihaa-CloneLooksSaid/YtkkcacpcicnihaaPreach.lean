import Derived.Test.YtkkcacpcicnihaaCome2
import Derived.Laws.MakeOwn
import Derived.StillTailTactics
namespace Go.Proofs.Ytkkcacpcicnihaa
open Go.RowKit
open Go.Proofs.Cl

theorem Try.info4 : (Try.prog.info? 4).map (fun i => (i.zero, i.size, i.bytes)) = some (some (.bool false), 1, 1) := by kernel_rfl

theorem made_seen (n : Nat) : madeCells #[Value.bool false] (n + 1) = seenArr n [] := by
  have h1 : (madeCells #[Value.bool false] (n + 1)).toList = List.replicate (n + 1) (.bool false) := toList_madeCells_one _ _
  have h2 : (seenArr n []).toList = List.replicate (n + 1) (.bool false) := by
    unfold seenArr
    simp [List.map_const']
  rw [← Array.toList_inj, h1, h2]

theorem run_make_seen (n : Nat) (hn : n ≤ 200) (w : World) :
    (Instr.makeSlice 45 (.int .i64 ((n : Int) + 1)) (.int .i64 ((n : Int) + 1))).run Try.prog w = .ok (.slice (some ⟨w.heap.size, 0, none⟩) (n + 1) (n + 1)) (w.alloc (.cells (seenArr n []) 4)) := by
  obtain ⟨i0, hi, hz0, hz1, hz2⟩ := info_parts Try.info4
  have hr := run_make (P := Try.prog) (w := w) 45 4 i0 (.bool false) Try.underlying45 hi hz0 .i64 .i64 ((n : Int) + 1) ((n : Int) + 1) (by omega) (by omega) (by rw [hz2]; omega) (by omega)
  have e : ((n : Int) + 1).toNat = n + 1 := by omega
  rw [e, hz1, Nat.mul_one] at hr
  rw [← made_seen]
  exact hr

/-- the world in which the closure is first called -/
abbrev wInit (w : World) (L : Option Addr) (n cl : Nat) : World :=
  (((w.alloc (.cells #[.slice L n cl] 22)).alloc (.cells #[.slice none 0 0] 27)).alloc (.cells (seenArr n []) 4)).alloc (.cells #[.slice (some ⟨w.heap.size + 1 + 1, 0, none⟩) (n + 1) (n + 1)] 45)

theorem rinv_init (w : World) (L : Option Addr) (n cl : Nat) : RInv (wInit w L n cl) w.heap.size w.heap.size (w.heap.size + 1 + 1 + 1) (w.heap.size + 1) (w.heap.size + 1 + 1) L n cl [] := by
  have e1 : (w.alloc (.cells #[.slice L n cl] 22)).heap.size = w.heap.size + 1 := by simp
  have e2 : ((w.alloc (.cells #[.slice L n cl] 22)).alloc (.cells #[.slice none 0 0] 27)).heap.size = w.heap.size + 1 + 1 := by simp
  have e3 : (((w.alloc (.cells #[.slice L n cl] 22)).alloc (.cells #[.slice none 0 0] 27)).alloc (.cells (seenArr n []) 4)).heap.size = w.heap.size + 1 + 1 + 1 := by simp
  have h1 := heap_alloc_new w (.cells #[.slice L n cl] 22)
  have h2 := heap_alloc_new (w.alloc (.cells #[.slice L n cl] 22)) (.cells #[.slice none 0 0] 27)
  have h3 := heap_alloc_new ((w.alloc (.cells #[.slice L n cl] 22)).alloc (.cells #[.slice none 0 0] 27)) (.cells (seenArr n []) 4)
  have h4 := heap_alloc_new (((w.alloc (.cells #[.slice L n cl] 22)).alloc (.cells #[.slice none 0 0] 27)).alloc (.cells (seenArr n []) 4)) (.cells #[.slice (some ⟨w.heap.size + 1 + 1, 0, none⟩) (n + 1) (n + 1)] 45)
  rw [e1] at h2
  rw [e2] at h3
  rw [e3] at h4
  refine ⟨?_, h4, ?_, ⟨.slice none 0 0, ?_, World.ownsRow_nil _ _ _ _⟩, Cl.Good.nil n, by omega, by omega, by omega, by omega⟩
  · rw [Below.heap_alloc _ _ _ (by omega), Below.heap_alloc _ _ _ (by omega), Below.heap_alloc _ _ _ (by omega)]; exact h1
  · rw [Below.heap_alloc _ _ _ (by omega)]; exact h3
  · rw [Below.heap_alloc _ _ _ (by omega), Below.heap_alloc _ _ _ (by omega)]; exact h2

theorem below_init (w : World) (L : Option Addr) (n cl : Nat) : Below w.heap.size w (wInit w L n cl) :=
  ((((Below.refl w.heap.size w).alloc (Nat.le_refl _) _).alloc (by simp) _).alloc (by simp; omega) _).alloc (by simp; omega) _

theorem ValsAt.arg {w w' : World} {A : Option Addr} {vs : List V} (h : ValsAt w A vs) (hb : Below w.heap.size w w') : VArg w' w.heap.size A vs := fun i hi => by
  obtain ⟨b, off, hA, hlt, hr⟩ := h i hi
  exact ⟨b, off, hA, Nat.lt_of_lt_of_le hlt hb.size, .inl hlt, rangeAt_below hr hb hlt⟩

theorem RInv.drew {w : World} {B Bl Bs Bo S : Nat} {L : Option Addr} {n cl : Nat} {os : List Nat} (h : RInv w B Bl Bs Bo S L n cl os) : RInv w.drew B Bl Bs Bo S L n cl os :=
  ⟨h.bl, h.bs, h.sn, h.bo, h.good, h.lo⟩

theorem leadsOf_pos (s : Sh) : 1 ≤ (leadsOf s).length := by simp [leadsOf]

theorem vsCells_at {vs : List V} {i : Nat} (h : i < vs.length) (j : Nat) (v : Value) (hv : (vCells vs[i]).toList[j]? = some v) : (vsCells vs)[i * 5 + j]? = some v := by
  induction vs generalizing i with
  | nil => simp at h
  | cons u us ih =>
    have e : vsCells (u :: us) = (vCells u).toList ++ vsCells us := by simp [vsCells]
    rw [e]
    cases i with
    | zero =>
      have hj : j < 5 := by have := (List.getElem?_eq_some_iff.1 hv).1; simpa using this
      rw [Nat.zero_mul, Nat.zero_add, List.getElem?_append_left (by simpa using hj)]
      exact hv
    | succ i =>
      have := ih (i := i) (by simpa using h) (by simpa using hv)
      rw [List.getElem?_append_right (by simp; omega)]
      rw [← this]
      congr 1
      simp; omega

/-- a list of values of the call's own, as the closure takes it -/
theorem vals_own {w : World} {base B : Nat} {v : Value} {vs : List V} (h : w.ownsRow base 25 5 v vs.length (vsCells vs)) (hp : 1 ≤ vs.length) :
    ∃ g cp, v = .slice (some ⟨g, 0, none⟩) vs.length cp ∧ VArg w B (some ⟨g, 0, none⟩) vs := by
  rcases h.2 with ⟨_, h0⟩ | ⟨g, cap, cur, rfl, hg, hh, _⟩
  · omega
  · refine ⟨g, cap, rfl, fun i hi => ⟨g, 0, rfl, lt_of_block hh, .inr ⟨cur, _, hh⟩, fun j u hu => ?_⟩⟩
    have hc := h.cells (g := g) rfl (i * 5 + j) u (vsCells_at hi j u hu)
    rw [Addr.add_mid] at hc
    rw [Nat.add_assoc]
    exact hc

/-- a list of objects of the call's own -/
def OwnPost (w : World) (n : Nat) (os : List Nat) (e : Ending) (w' : World) : Prop := ∃ v, e = .returned v ∧ w'.ownsRow w.heap.size 3 1 v os.length (natCells os) ∧ Cl.Good n os ∧ Below w.heap.size w w'

set_option maxRecDepth 100000 in
set_option maxHeartbeats 4000000 in
theorem preach_any (L R : Option Addr) (cl cr : Nat) (l : List Sh) (roots : List V) (w : World) (hL : ShapesAt w L l) (hR : ValsAt w R roots) (hn : l.length ≤ 200) (hr : roots.length ≤ 200) :
    Calls Try.prog 5 #[.slice L l.length cl, .slice R roots.length cr] w (OwnPost w l.length (reach l roots)) := by
  have hmk := run_make_seen l.length hn
  have hmf : ∀ (fn : Fn) (first cap : Array Value) (w : World), (Instr.makeFunc fn first cap).run Try.prog w = .ok (.func fn first cap) w := fun _ _ _ _ => rfl
  have HL := Lib.hid hL
  have HR := Lib.hid hR
  have I0 := Lib.hid (rinv_init w L l.length cl)
  have B0 := Lib.hid (below_init w L l.length cl)
  have V0 := Lib.hid (hR.arg B0.out)
  clear hL hR
  go_enter Try.func5, Try.ntmps5
  go_wp2_with fail
  refine (come_any w.heap.size _ _ _ _ L R l.length cl cr [] roots _ I0.out V0.out hn (by omega)).mono ?_
  rintro e w1 ⟨rfl, hI, hB⟩
  have HI := Lib.hid hI
  have HB := Lib.hid (B0.out.trans hB)
  clear hI hB hmk hmf I0 B0 V0
  go_wp2_with fail
  go_loopw [8] (fun i wr => ∃ k : Nat, k ≤ l.length ∧ i = .int .i64 k ∧ RInv wr w.heap.size w.heap.size (w.heap.size + 1 + 1 + 1) (w.heap.size + 1) (w.heap.size + 1 + 1) L l.length cl (after l roots k) ∧ Below w.heap.size w wr)
    (fun i _ => l.length - (intOf i).toNat)
  case atStart => exact ⟨0, Nat.zero_le _, rfl, HI.out, HB.out⟩
  case round =>
    clear HI HB
    obtain ⟨k, hk, rfl, hI, hB⟩ := hrel
    have HI := Lib.hid hI
    have HB := Lib.hid hB
    clear hI hB
    have hle := after_le l roots k
    have clx := cell_of_one HI.out.bl
    obtain ⟨v0, hv0, ho0⟩ := HI.out.bo
    by_cases hlt : k < (after l roots k).length
    · have hsu := Lib.hid (after_succ l roots k hlt)
      generalize after l roots k = out at *
      obtain ⟨g, cp, rfl⟩ : ∃ g cp, v0 = .slice (some ⟨g, 0, none⟩) out.length cp := by
        rcases ho0.2 with ⟨_, h0⟩ | ⟨g, cap, cur, h, _⟩
        · omega
        · exact ⟨g, cap, h⟩
      have co := cell_of_one hv0
      have hcell := ho0.cellAt k (by omega)
      rw [natCells_at hlt] at hcell
      have ho := HI.out.good.2 out[k] (List.getElem_mem hlt)
      obtain ⟨q, hq⟩ : ∃ q, out[k] = q + 1 := ⟨out[k] - 1, by omega⟩
      rw [List.getD_eq_getElem?_getD, List.getElem?_eq_getElem hlt, Option.getD_some, hq] at hcell
      have hql : q < l.length := by omega
      rw [hq] at hsu
      rw [shAt_get l q hql] at hsu
      obtain ⟨b2, off2, rfl, hbs2, P, cpp, hra, hpr, hpl⟩ := HL.out q hql
      have hrb := rangeAt_below hra HB.out hbs2
      have HP := Lib.hid (hpr.below HB.out)
      clear hra hpr ho hq hv0 ho0
      generalize l[q] = s at *
      have r0 := hrb 0 _ rfl
      have r1 := hrb 1 _ rfl
      have r2 := hrb 2 _ rfl
      have r3 := hrb 3 _ rfl
      have r4 := hrb 4 _ rfl
      have r5 := hrb 5 _ rfl
      have r6 := hrb 6 _ rfl
      have r7 := hrb 7 _ rfl
      simp only [Nat.add_zero] at r0
      have HRB := Lib.hid hrb
      clear hrb
      go_wp2_with fail
      have hle1 := leadsOf_pos s
      have hle2 : (leadsOf s).length ≤ 140737488355328 := by rw [← leadsTo_all, leadsTo_length s _ (Nat.le_refl _)]; omega
      have hwq : IntKind.i64.wrap (q : Int) = (q : Int) := by rw [IntKind.wrap_i64]; omega
      go_region_with (first
        | (go_at_call 19; refine (leads_any s P cpp wr.drew hpl HP.out).mono ?_; rintro e w2 ⟨v2, rfl, hown2, hb2⟩; obtain ⟨g2, cp2, rfl, hva⟩ := vals_own (B := w.heap.size) hown2 hle1; have HVA := Lib.hid hva; have HI2 := Lib.hid (HI.out.drew.below hb2); have HB2 := Lib.hid (HB.out.drew.trans (hb2.mono HB.out.size)); clear hown2 hb2 hva)
        | (go_at_call 17; refine (come_any w.heap.size _ _ _ _ _ (some ⟨g2, 0, none⟩) l.length cl cp2 out (leadsOf s) _ HI2.out HVA.out hn hle2).mono ?_; rintro e w3 ⟨rfl, hI3, hB3⟩; have HI3 := Lib.hid hI3; have HB3 := Lib.hid (HB2.out.trans hB3); clear hI3 hB3))
      all_goals
        clear r0 r1 r2 r3 r4 r5 r6 r7 clx co hcell
        go_wp2
        go_roundw
        case rel => exact ⟨k + 1, by omega, by go_num, by rw [hsu.out]; exact HI3.out, HB3.out⟩
        case measure => simp [intOf]; omega
    · have hk' : (after l roots k).length ≤ k := by omega
      have hd := after_done l roots k hk' hk
      have hI := HI.out
      rw [hd] at hI ho0 hlt
      have HI1 := Lib.hid hI
      have HO := Lib.hid ho0
      clear hI hd hk' hle
      rcases ho0.2 with ⟨rfl, h0⟩ | ⟨g, cap, cur, rfl, _⟩
      · have co := cell_of_one hv0
        clear ho0
        go_wp2
        go_ret
        exact ⟨_, rfl, HO.out, HI1.out.good, HB.out⟩
      · have co := cell_of_one hv0
        clear ho0
        go_wp2
        go_ret
        exact ⟨_, rfl, HO.out, HI1.out.good, HB.out⟩

end Go.Proofs.Ytkkcacpcicnihaa
