import Derived.Test.YtkkcacpcicnihaaRreach
import Derived.OneCell
namespace Go.Proofs.Ytkkcacpcicnihaa
open Go.RowKit
open Go.Proofs.Cl

/-- which objects have been seen -/
def seenArr (n : Nat) (os : List Nat) : Array Value := ((List.range (n + 1)).map fun o => Value.bool (decide (o ∈ os))).toArray
theorem seenArr_at {n : Nat} {os : List Nat} {x : Nat} (h : x ≤ n) : (seenArr n os)[x]? = some (.bool (decide (x ∈ os))) := by
  unfold seenArr
  simp [List.getElem?_range (show x < n + 1 by omega)]
theorem seenArr_size (n : Nat) (os : List Nat) : (seenArr n os).size = n + 1 := by simp [seenArr]
theorem seenArr_push {n : Nat} {os : List Nat} {x : Nat} : (seenArr n os).setIfInBounds x (.bool true) = seenArr n (os ++ [x]) := by
  apply Array.ext_getElem?
  intro i
  rw [Array.getElem?_setIfInBounds]
  by_cases hi : i ≤ n
  · rw [seenArr_at hi, seenArr_at hi]
    by_cases hx : x = i
    · subst hx; rw [if_pos rfl, if_pos (by rw [seenArr_size]; omega)]; simp
    · rw [if_neg hx]
      have : (i ∈ os ++ [x]) ↔ i ∈ os := by simp [Ne.symm hx]
      simp [this]
  · have h1 : (seenArr n (os ++ [x]))[i]? = none := by simp [seenArr_size]; omega
    have h2 : (seenArr n os)[i]? = none := by simp [seenArr_size]; omega
    rw [h1, h2]
    split
    · rw [if_neg (by rw [seenArr_size]; omega)]
    · rfl

/-- what the closure keeps: the shapes, what has been seen, what has been gathered -/
structure RInv (w : World) (B Bl Bs Bo S : Nat) (L : Option Addr) (n cl : Nat) (os : List Nat) : Prop where
  bl : w.heap[Bl]? = some (.cells #[.slice L n cl] 22 (0, 0))
  bs : w.heap[Bs]? = some (.cells #[.slice (some ⟨S, 0, none⟩) (n + 1) (n + 1)] 45 (0, 0))
  sn : w.heap[S]? = some (.cells (seenArr n os) 4 (0, 0))
  bo : ∃ v, w.heap[Bo]? = some (.cells #[v] 27 (0, 0)) ∧ w.ownsRow B 3 1 v os.length (natCells os)
  good : Cl.Good n os
  lo : B ≤ Bl ∧ B ≤ Bs ∧ B ≤ Bo ∧ B ≤ S

/-- a block that the closure leaves alone -/
def Still (w : World) (B b : Nat) : Prop := b < B ∨ ∃ cs fr, w.heap[b]? = some (.cells cs 25 fr)

/-- a slice's values, in memory that the closure leaves alone -/
def VArg (w : World) (B : Nat) (A : Option Addr) (vs : List V) : Prop :=
  ∀ i, (h : i < vs.length) → ∃ b off, A = some ⟨b, off, none⟩ ∧ b < w.heap.size ∧ Still w B b ∧ w.rangeAt b (off + i * 5) (vCells vs[i]).toList

/-- blocks that the closure leaves alone are as they were -/
def Stays (B : Nat) (w w' : World) : Prop := w.heap.size ≤ w'.heap.size ∧ ∀ b, b < w.heap.size → Still w B b → w'.heap[b]? = w.heap[b]?

theorem Stays.trans {B : Nat} {a b c : World} (h : Stays B a b) (k : Stays B b c) : Stays B a c := by
  refine ⟨Nat.le_trans h.1 k.1, fun x hx hs => ?_⟩
  have e := h.2 x hx hs
  have hs' : Still b B x := by
    rcases hs with hs | ⟨cs, fr, hs⟩
    · exact .inl hs
    · exact .inr ⟨cs, fr, e.trans hs⟩
  exact (k.2 x (Nat.lt_of_lt_of_le hx h.1) hs').trans e

theorem Stays.of_below {B : Nat} {w w' : World} (h : Below w.heap.size w w') : Stays B w w' := ⟨h.size, fun b hb _ => h.block b hb⟩

theorem VArg.keep {B : Nat} {w w' : World} {A : Option Addr} {vs : List V} (h : VArg w B A vs) (hk : Stays B w w') : VArg w' B A vs := fun i hi => by
  obtain ⟨b, off, hA, hlt, hs, hr⟩ := h i hi
  have e := hk.2 b hlt hs
  refine ⟨b, off, hA, Nat.lt_of_lt_of_le hlt hk.1, ?_, fun j v hv => ?_⟩
  · rcases hs with hs | ⟨cs, fr, hs⟩
    · exact .inl hs
    · exact .inr ⟨cs, fr, e.trans hs⟩
  · rw [World.cell?_of_block (a := ⟨b, _, none⟩) e]
    exact hr j v hv

theorem RInv.below {w w' : World} {B Bl Bs Bo S : Nat} {L : Option Addr} {n cl : Nat} {os : List Nat} (h : RInv w B Bl Bs Bo S L n cl os) (hb : Below w.heap.size w w') : RInv w' B Bl Bs Bo S L n cl os := by
  obtain ⟨v, h1, h2⟩ := h.bo
  exact ⟨(hb.block _ (lt_of_block h.bl)).trans h.bl, (hb.block _ (lt_of_block h.bs)).trans h.bs, (hb.block _ (lt_of_block h.sn)).trans h.sn,
    ⟨v, (hb.block _ (lt_of_block h1)).trans h1, h2.kept (row := none) ⟨hb.os, hb.tape, hb.output, hb.size, fun i hi _ => hb.block i hi⟩ (by
      cases hv : v.ownBlock with
      | none => exact .inl rfl
      | some k => exact .inr (by simp))⟩, h.good, h.lo⟩

theorem own_type {w : World} {B g : Nat} {v : Value} {n : Nat} {xs : List Value} (h : w.ownsRow B 3 1 v n xs) (hg : v.ownBlock = some g) : ∃ cur, w.heap[g]? = some (.cells cur 3 (0, 0)) := by
  rcases h.2 with ⟨rfl, _⟩ | ⟨g', cap, cur, rfl, _, hh, _⟩
  · cases hg
  · simp only [Value.ownBlock, Option.some.injEq] at hg
    subst hg
    exact ⟨cur, hh⟩

theorem row_setCell {w : World} {g i : Nat} {cs : Array Value} {t : TypeId} (h : w.heap[g]? = some (.cells cs t (0, 0))) (v : Value) : (w.setCell ⟨g, i, none⟩ v).heap[g]? = some (.cells (cs.setIfInBounds i v) t (0, 0)) :=
  heap_setCell_same w g i cs t v h

theorem blk_ne {w : World} {a b : Nat} {ca cb : Array Value} {ta tb : TypeId} (ha : w.heap[a]? = some (.cells ca ta (0, 0))) (hb : w.heap[b]? = some (.cells cb tb (0, 0))) (ht : ta ≠ tb) : a ≠ b := by
  intro e
  subst e
  rw [ha] at hb
  injection hb with hb
  injection hb with _ hb
  exact ht hb

/-- where the gathered list's variable lies, nothing has turned yet -/
theorem rinv_box {w : World} {B Bl Bs Bo S : Nat} {L : Option Addr} {n cl : Nat} {os : List Nat} {x : Nat} {v : Value} {wC : World} (h : RInv w B Bl Bs Bo S L n cl os) (hv : w.heap[Bo]? = some (.cells #[v] 27 (0, 0)))
    (hg : ((w.setCell ⟨S, x, none⟩ (.bool true)).alloc (.cells #[.int .i64 (x : Int)] 3)).grownBy wC v.ownBlock) (hown0 : w.ownsRow B 3 1 v os.length (natCells os)) :
    wC.heap[Bo]? = some (.cells #[v] 27 (0, 0)) := by
  have sz : ((w.setCell ⟨S, x, none⟩ (.bool true)).alloc (.cells #[.int .i64 (x : Int)] 3)).heap.size = w.heap.size + 1 := by simp
  have hne : Bo ≠ S := blk_ne hv h.sn (by decide)
  rw [hg.block Bo (by rw [sz]; exact Nat.lt_succ_of_lt (lt_of_block hv)) (fun e => by
      obtain ⟨cur, hc⟩ := own_type hown0 e.symm
      rw [hv] at hc
      injection hc with hc
      injection hc with _ hc
      cases hc),
    Below.heap_alloc _ _ _ (by simpa using lt_of_block hv), heap_setCell_other _ _ _ _ hne, hv]

theorem rinv_own {w : World} {B Bl Bs Bo S : Nat} {L : Option Addr} {n cl : Nat} {os : List Nat} {x : Nat} {v : Value} (h : RInv w B Bl Bs Bo S L n cl os) (hown0 : w.ownsRow B 3 1 v os.length (natCells os)) :
    ((w.setCell ⟨S, x, none⟩ (.bool true)).alloc (.cells #[.int .i64 (x : Int)] 3)).ownsRow B 3 1 v os.length (natCells os) := by
  refine (ownsRow_setCell_other hown0 (a := ⟨S, x, none⟩) ?_ _).alloc _
  intro e
  obtain ⟨cur, hc⟩ := own_type hown0 e
  rw [h.sn] at hc
  injection hc with hc
  injection hc with _ hc
  cases hc

/-- one object more -/
theorem rinv_push {w : World} {B Bl Bs Bo S : Nat} {L : Option Addr} {n cl : Nat} {os : List Nat} {x : Nat} {v v' : Value} {wC : World} (h : RInv w B Bl Bs Bo S L n cl os)
    (hx : 1 ≤ x ∧ x ≤ n) (hno : x ∉ os) (hv : w.heap[Bo]? = some (.cells #[v] 27 (0, 0)))
    (hown : wC.ownsRow B 3 1 v' (os.length + 1) (natCells os ++ natCells [x]))
    (hg : ((w.setCell ⟨S, x, none⟩ (.bool true)).alloc (.cells #[.int .i64 (x : Int)] 3)).grownBy wC v.ownBlock) (hown0 : w.ownsRow B 3 1 v os.length (natCells os))
    (hloc : v'.ownBlock = v.ownBlock ∨ v'.ownBlock = some ((w.setCell ⟨S, x, none⟩ (.bool true)).alloc (.cells #[.int .i64 (x : Int)] 3)).heap.size) :
    RInv (wC.setCell ⟨Bo, 0, none⟩ v') B Bl Bs Bo S L n cl (os ++ [x]) ∧ Below B w (wC.setCell ⟨Bo, 0, none⟩ v') ∧ Stays B w (wC.setCell ⟨Bo, 0, none⟩ v') := by
  obtain ⟨l1, l2, l3, l4⟩ := h.lo
  have sz : ((w.setCell ⟨S, x, none⟩ (.bool true)).alloc (.cells #[.int .i64 (x : Int)] 3)).heap.size = w.heap.size + 1 := by simp
  -- what is neither the row, nor S, nor Bo is as it was
  have keep : ∀ b, b < w.heap.size → b ≠ S → b ≠ Bo → some b ≠ v.ownBlock → (wC.setCell ⟨Bo, 0, none⟩ v').heap[b]? = w.heap[b]? := by
    intro b hb h1 h2 h3
    rw [heap_setCell_other _ _ _ _ h2, hg.block b (by omega) h3, Below.heap_alloc _ _ _ (by simpa using hb), heap_setCell_other _ _ _ _ h1]
  have ne : ∀ {a b : Nat} {ca cb : Array Value} {ta tb : TypeId}, w.heap[a]? = some (.cells ca ta (0, 0)) → w.heap[b]? = some (.cells cb tb (0, 0)) → ta ≠ tb → a ≠ b := by
    intro a b ca cb ta tb ha hb ht e
    subst e
    rw [ha] at hb
    injection hb with hb
    injection hb with _ hb
    exact ht hb
  have no3 : ∀ {a : Nat} {ca : Array Value} {ta : TypeId}, w.heap[a]? = some (.cells ca ta (0, 0)) → ta ≠ 3 → ∀ cur, w.heap[a]? ≠ some (.cells cur 3 (0, 0)) := fun ha ht cur hc => ne ha hc ht rfl
  have no3' : ∀ {a : Nat} {ca : Array Value} {ta : TypeId}, w.heap[a]? = some (.cells ca ta (0, 0)) → ta ≠ 3 → some a ≠ v.ownBlock := fun ha ht e => by
    obtain ⟨cur, hc⟩ := own_type hown0 e.symm
    exact no3 ha ht cur hc
  have hS : (wC.setCell ⟨Bo, 0, none⟩ v').heap[S]? = some (.cells (seenArr n (os ++ [x])) 4 (0, 0)) := by
    rw [heap_setCell_other _ _ _ _ (ne h.sn hv (by decide)), hg.block S (by rw [sz]; exact Nat.lt_succ_of_lt (lt_of_block h.sn)) (fun e => by obtain ⟨cur, hc⟩ := own_type hown0 e.symm; exact no3 h.sn (by decide) cur hc),
      Below.heap_alloc _ _ _ (by simpa using lt_of_block h.sn), row_setCell h.sn, seenArr_push]
  have hBo : wC.heap[Bo]? = some (.cells #[v] 27 (0, 0)) := by
    rw [hg.block Bo (by rw [sz]; exact Nat.lt_succ_of_lt (lt_of_block hv)) (fun e => by obtain ⟨cur, hc⟩ := own_type hown0 e.symm; exact no3 hv (by decide) cur hc),
      Below.heap_alloc _ _ _ (by simpa using lt_of_block hv), heap_setCell_other _ _ _ _ (ne hv h.sn (by decide)), hv]
  have hne : v'.ownBlock ≠ some Bo := by
    intro e
    obtain ⟨cur, hc⟩ := own_type hown e
    rw [hBo] at hc
    injection hc with hc
    injection hc with _ hc
    cases hc
  refine ⟨⟨?_, ?_, hS, ⟨v', one_setCell hBo, ?_⟩, ?_, h.lo⟩, ?_, ?_⟩
  · rw [keep Bl (lt_of_block h.bl) (ne h.bl h.sn (by decide)) (ne h.bl hv (by decide)) (no3' h.bl (by decide)), h.bl]
  · rw [keep Bs (lt_of_block h.bs) (ne h.bs h.sn (by decide)) (ne h.bs hv (by decide)) (no3' h.bs (by decide)), h.bs]
  · have := ownsRow_setCell_other hown (a := ⟨Bo, 0, none⟩) hne v'
    rw [natCells_append, List.length_append]
    exact this
  · have := h.good
    refine ⟨List.nodup_append.2 ⟨this.1, by simp, ?_⟩, ?_⟩
    · intro a ha b hb
      simp only [List.mem_singleton] at hb
      subst hb
      rintro rfl
      exact hno ha
    · intro o ho
      rcases List.mem_append.1 ho with ho | ho
      · exact this.2 o ho
      · simp only [List.mem_singleton] at ho
        subst ho
        exact hx
  · have b1 : Below B w (w.setCell ⟨S, x, none⟩ (.bool true)) := (Below.refl B w).setCell (p := ⟨S, x, none⟩) l4 _
    have hB : B ≤ w.heap.size := Nat.le_trans l1 (Nat.le_of_lt (lt_of_block h.bl))
    exact ((b1.alloc (by simpa using hB) _).grown hg (by rw [sz]; omega) (fun j hj => (hown0.lt j hj).1)).setCell (p := ⟨Bo, 0, none⟩) l3 _
  · refine ⟨by have := hg.size; rw [sz] at this; simp; omega, fun b hb hs => ?_⟩
    rcases hs with hs | ⟨cs, fr, hs⟩
    · exact keep b hb (by omega) (by omega) (fun e => by have := (hown0.lt b e.symm).1; omega)
    · refine keep b hb ?_ ?_ (fun e => ?_)
      · rintro rfl; rw [h.sn] at hs; cases hs
      · rintro rfl; rw [hv] at hs; cases hs
      · obtain ⟨cur, hc⟩ := own_type hown0 e.symm
        rw [hc] at hs; cases hs

end Go.Proofs.Ytkkcacpcicnihaa
