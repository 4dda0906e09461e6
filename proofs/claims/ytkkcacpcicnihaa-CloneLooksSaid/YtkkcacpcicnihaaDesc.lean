import Derived.Test.YtkkcacpcicnihaaRany
import Derived.Test.YtkkcacpcicnihaaRreach
import Derived.BigRegion
namespace Go.Proofs.Ytkkcacpcicnihaa
open Go.RowKit
open Go.Proofs.Cl

/-- a whole struct's cells, not written out -/
structure IsRow (n : Nat) (C : Array Value) : Prop where
  size : C.size = n
  one : C.all (·.oneCell') = true

theorem isRow_d (d : Ds) : IsRow 18 (dCells d).toArray := ⟨rfl, dCells_one d⟩
theorem isRow_s (s : Sh) (A : Option Addr) (cap : Nat) : IsRow 8 (sCells s A cap).toArray := ⟨rfl, sCells_one s A cap⟩
theorem isRow_p (p : Pr) : IsRow 20 (pCells p).toArray := ⟨rfl, pCells_one p⟩

section
variable {P : Program} {ty : TypeId} {n : Nat}

theorem run_store_0 (hi : (P.info? ty).map (·.size) = some n) {C old : Array Value} (hC : IsRow n C) (ho : old.size = n) (X : World) (t : TypeId) (b : Nat) (hb : b = X.heap.size) :
    (Instr.storeAt ty (.pointer (some ⟨b, 0, none⟩)) (.agg C)).run P (X.alloc (.cells old t)) = .ok () (X.alloc (.cells C t)) := by
  subst hb
  simp only [Instr.storeAt, Instr.sureAddr, Sem.run_bind, Sem.run_pure, Result.andThen_ok, run_storeVar_row (P := P) (X.alloc (.cells old t)) X.heap.size t ty old C (heap_alloc_new X _) (by rw [hi, hC.size]) (by rw [ho, hC.size]) hC.one]
  rw [setRow_alloc]

theorem setRow_alloc2 (w : World) (old cells : Array Value) (t : TypeId) (o : Obj) : ((w.alloc (.cells old t)).alloc o).setRow w.heap.size cells = (w.alloc (.cells cells t)).alloc o := by
  show ({ ((w.alloc (.cells old t)).alloc o) with heap := _ } : World) = _
  simp only [World.alloc]
  congr 1
  apply Array.ext_getElem?
  intro i
  simp only [Array.getElem?_modify, Array.getElem?_push, Array.size_push]
  by_cases h : i = w.heap.size
  · subst h; simp
  · simp [h, Ne.symm h]

theorem run_store_1 (hi : (P.info? ty).map (·.size) = some n) {C old : Array Value} (hC : IsRow n C) (ho : old.size = n) (X : World) (o : Obj) (t : TypeId) (b : Nat) (hb : b = X.heap.size) :
    (Instr.storeAt ty (.pointer (some ⟨b, 0, none⟩)) (.agg C)).run P ((X.alloc (.cells old t)).alloc o) = .ok () ((X.alloc (.cells C t)).alloc o) := by
  subst hb
  have h0 : ((X.alloc (.cells old t)).alloc o).heap[X.heap.size]? = some (.cells old t (0, 0)) := by
    rw [Below.heap_alloc _ _ _ (by simp)]; exact heap_alloc_new X _
  simp only [Instr.storeAt, Instr.sureAddr, Sem.run_bind, Sem.run_pure, Result.andThen_ok, run_storeVar_row (P := P) _ X.heap.size t ty old C h0 (by rw [hi, hC.size]) (by rw [ho, hC.size]) hC.one]
  rw [setRow_alloc2]

theorem run_load_r (hi : (P.info? ty).map (·.size) = some n) (hd : ∃ d, P.underlying ty = some d ∧ d.isRow = true) {C : Array Value} (hC : IsRow n C) (X : World) (b off : Nat) (hr : X.rangeAt b off C.toList) :
    (Instr.loadAt ty (.pointer (some ⟨b, off, none⟩))).run P X = .ok (.agg C) X := by
  obtain ⟨d, hu, hd⟩ := hd
  have := run_loadAt_mid (P := P) X b off ty C.toList d hr hu hd (by rw [hi, Array.length_toList, hC.size])
  simpa using this
end

theorem rangeAt_alloc {w : World} {b off : Nat} {cs : List Value} (h : w.rangeAt b off cs) (hlt : b < w.heap.size) (o : Obj) : (w.alloc o).rangeAt b off cs := rangeAt_below h ((Below.refl _ _).alloc (Nat.le_refl _) o) hlt
theorem rangeAt_new (w : World) (C : Array Value) (t : TypeId) (b : Nat) (hb : b = w.heap.size) : (w.alloc (.cells C t)).rangeAt b 0 C.toList := fun j v hv => by
  subst hb
  rw [cell_of_row _ _ _ _ _ _ (heap_alloc_new w _)]
  simpa using hv

section
variable {P : Program} {ty : TypeId} {n : Nat}
/-- a load of a whole struct, behind one new block and behind two, in a region that has drawn -/
theorem loads3 (hi : (P.info? ty).map (·.size) = some n) (hd : ∃ d, P.underlying ty = some d ∧ d.isRow = true) {C : Array Value} (hC : IsRow n C) (X : World) (b off : Nat) (hlt : b < X.heap.size) (hr : X.rangeAt b off C.toList) :
    (Instr.loadAt ty (.pointer (some ⟨b, off, none⟩))).run P X.drew = .ok (.agg C) X.drew ∧
    (∀ o, (Instr.loadAt ty (.pointer (some ⟨b, off, none⟩))).run P (X.alloc o).drew = .ok (.agg C) (X.alloc o).drew) ∧
    (∀ o o', (Instr.loadAt ty (.pointer (some ⟨b, off, none⟩))).run P ((X.alloc o).alloc o').drew = .ok (.agg C) ((X.alloc o).alloc o').drew) :=
  ⟨run_load_r hi hd hC X.drew b off hr, fun o => run_load_r hi hd hC (X.alloc o).drew b off (rangeAt_alloc hr hlt o),
    fun o o' => run_load_r hi hd hC ((X.alloc o).alloc o').drew b off (rangeAt_alloc (rangeAt_alloc hr hlt o) (by simp; omega) o')⟩

/-- a store of a whole struct into one of two new blocks -/
theorem stores3 (hi : (P.info? ty).map (·.size) = some n) {C : Array Value} (hC : IsRow n C) (X : World) (t : TypeId) (b0 b1 : Nat) (h0 : b0 = X.heap.size) (h1 : b1 = X.heap.size + 1) :
    (∀ old, old.size = n → (Instr.storeAt ty (.pointer (some ⟨b0, 0, none⟩)) (.agg C)).run P (X.alloc (.cells old t)).drew = .ok () (X.alloc (.cells C t)).drew) ∧
    (∀ old o, old.size = n → (Instr.storeAt ty (.pointer (some ⟨b0, 0, none⟩)) (.agg C)).run P ((X.alloc (.cells old t)).alloc o).drew = .ok () ((X.alloc (.cells C t)).alloc o).drew) ∧
    (∀ old o, old.size = n → (Instr.storeAt ty (.pointer (some ⟨b1, 0, none⟩)) (.agg C)).run P ((X.alloc o).alloc (.cells old t)).drew = .ok () ((X.alloc o).alloc (.cells C t)).drew) :=
  ⟨fun _ ho => run_store_0 hi hC ho X.drew t b0 h0, fun _ o ho => run_store_1 hi hC ho X.drew o t b0 h0, fun _ o ho => run_store_0 hi hC ho (X.alloc o).drew t b1 (by rw [h1]; simp)⟩
end

section
variable {P : Program}
theorem wpList_load_c {ops : Array Oper} {rest : List Oper} {op : Oper} {a : Act} {w : World} {Q : Exit → Act → World → Prop} (hgd : op.guard = none) (ty : TypeId) (x : Operand) (ho : op.op = .load ty x)
    (b o : Nat) (hx : a.eval x = .pointer (some ⟨b, o, none⟩)) {n : Nat} {C : Array Value} (hC : IsRow n C) (hc : w.rangeAt b o C.toList)
    (hd : ∃ d, P.underlying ty = some d ∧ d.isRow = true) (hi : (P.info? ty).map (·.size) = some n)
    (h : wpList P ops Q rest (a.put op.dst (.agg C)) w) : wpList P ops Q (op :: rest) a w := by
  obtain ⟨d, hu, hd⟩ := hd
  exact wpList_load_mid hgd ty x ho b o hx C.toList d hc hu hd (by rw [hi, Array.length_toList, hC.size]) h
theorem wpList_store_c {ops : Array Oper} {rest : List Oper} {o : Oper} {a : Act} {w : World} {Q : Exit → Act → World → Prop} (hgd : o.guard = none) (ty : TypeId) (x y : Operand) (ho : o.op = .store ty x y)
    {n : Nat} {C old : Array Value} (hC : IsRow n C) (t : TypeId) (b : Nat) (hx : a.eval x = .pointer (some ⟨b, 0, none⟩)) (hb : b = w.heap.size) (hy : a.eval y = .agg C) (hi : (P.info? ty).map (·.size) = some n)
    (hold : old.size = n)
    (h : wpList P ops Q rest (a.put o.dst undef) (w.alloc (.cells C t))) : wpList P ops Q (o :: rest) a (w.alloc (.cells old t)) :=
  wpList_store_new hgd ty x y ho C old t (by rw [hx, hb]) hy (by rw [hi, hC.size]) (by rw [hold, hC.size]) hC.one h
end

theorem Try.row57 : ∃ d, Try.prog.underlying 57 = some d ∧ d.isRow = true := ⟨_, Try.underlying57, rfl⟩
theorem Try.row59 : ∃ d, Try.prog.underlying 59 = some d ∧ d.isRow = true := ⟨_, Try.underlying59, rfl⟩
theorem Try.row51 : ∃ d, Try.prog.underlying 51 = some d ∧ d.isRow = true := ⟨_, Try.underlying51, rfl⟩
theorem Try.size57 : (Try.prog.info? 57).map (·.size) = some 18 := by kernel_rfl
theorem Try.size59 : (Try.prog.info? 59).map (·.size) = some 20 := by kernel_rfl
theorem Try.size51 : (Try.prog.info? 51).map (·.size) = some 8 := by kernel_rfl

/-! whole structs in a region that draws: rules at the operation itself -/
def Lies (w : World) (b off : Nat) (C : Array Value) : Prop := w.rangeAt b off C.toList
theorem lies_alloc (w : World) (o : Obj) (b off : Nat) (C : Array Value) (h : b < w.heap.size) : Lies (w.alloc o) b off C = Lies w b off C := by
  unfold Lies World.rangeAt
  simp only [World.cell?_alloc_past o _ _ h]
theorem lies_drew (w : World) (b off : Nat) (C : Array Value) : Lies w.drew b off C = Lies w b off C := propext Iff.rfl

/-- a load from the address that a slot holds -/
def Ld (P : Program) (o : Oper) (ty : TypeId) (pv : Value) (A : Act) (W : World) (K : Act → World → Prop) (Q : Exit → Act → World → Prop) : Prop :=
  Oper.upon P o A K Q ((do let v ← Instr.loadAt ty pv; pure (Next.value v) : Sem Next).run P W)
/-- a store to the address that a slot holds -/
def St (P : Program) (o : Oper) (ty : TypeId) (pv cv : Value) (A : Act) (W : World) (K : Act → World → Prop) (Q : Exit → Act → World → Prop) : Prop :=
  Oper.upon P o A K Q ((do Instr.storeAt ty pv cv; pure Next.skip : Sem Next).run P W)

section
variable {P : Program} {n : Nat}
theorem ld_row {ty : TypeId} (hi : (P.info? ty).map (·.size) = some n) (hd : ∃ d, P.underlying ty = some d ∧ d.isRow = true) {b off : Nat} {C : Array Value} (hC : IsRow n C) :
    ∀ (o : Oper) (A : Act) (W : World) (K : Act → World → Prop) (Q : Exit → Act → World → Prop), Lies W b off C → Ld P o ty (.pointer (some ⟨b, off, none⟩)) A W K Q = K (A.put o.dst (.agg C)) W := by
  intro o A W K Q hr
  unfold Ld
  simp only [Sem.run_bind, Sem.run_pure, Result.andThen_ok, run_load_r hi hd hC W b off hr]
  rfl
theorem st_row0 {ty t : TypeId} (hi : (P.info? ty).map (·.size) = some n) {op : Op} {ty' : TypeId} {pos : String} {af : Array Edge} {gd : Option (Nat × Bool)} {A : Act} {X : World} {K : Act → World → Prop} {Q : Exit → Act → World → Prop}
    {b : Nat} {C old : Array Value} (hC : IsRow n C) (hb : b = X.heap.size) (ho : old.size = n) :
    St P ⟨none, op, ty', pos, af, gd⟩ ty (.pointer (some ⟨b, 0, none⟩)) (.agg C) A (X.alloc (.cells old t)).drew K Q = K A (X.alloc (.cells C t)).drew := by
  unfold St
  rw [show (X.alloc (.cells old t)).drew = X.drew.alloc (.cells old t) from rfl]
  simp only [Sem.run_bind, Sem.run_pure, Result.andThen_ok, run_store_0 hi hC ho X.drew t b hb]
  rfl
theorem st_row1 {ty t : TypeId} (hi : (P.info? ty).map (·.size) = some n) {op : Op} {ty' : TypeId} {pos : String} {af : Array Edge} {gd : Option (Nat × Bool)} {A : Act} {X : World} {K : Act → World → Prop} {Q : Exit → Act → World → Prop}
    {b : Nat} {C old : Array Value} {o : Obj} (hC : IsRow n C) (hb : b = X.heap.size) (ho : old.size = n) :
    St P ⟨none, op, ty', pos, af, gd⟩ ty (.pointer (some ⟨b, 0, none⟩)) (.agg C) A ((X.alloc (.cells old t)).alloc o).drew K Q = K A ((X.alloc (.cells C t)).alloc o).drew := by
  unfold St
  rw [show ((X.alloc (.cells old t)).alloc o).drew = (X.drew.alloc (.cells old t)).alloc o from rfl]
  simp only [Sem.run_bind, Sem.run_pure, Result.andThen_ok, run_store_1 hi hC ho X.drew o t b hb]
  rfl
end

theorem load_57 {ty' : TypeId} {dst : Option Nat} {x : Operand} {pos : String} {af : Array Edge} {gd : Option (Nat × Bool)} {A : Act} {W : World} {K : Act → World → Prop} {Q : Exit → Act → World → Prop} :
    Oper.wp Try.prog ⟨dst, .load 57 x, ty', pos, af, gd⟩ A W K Q = Ld Try.prog ⟨dst, .load 57 x, ty', pos, af, gd⟩ 57 (A.eval x) A W K Q := rfl
theorem store_57 {ty' : TypeId} {x y : Operand} {pos : String} {af : Array Edge} {gd : Option (Nat × Bool)} {A : Act} {W : World} {K : Act → World → Prop} {Q : Exit → Act → World → Prop} :
    Oper.wp Try.prog ⟨none, .store 57 x y, ty', pos, af, gd⟩ A W K Q = St Try.prog ⟨none, .store 57 x y, ty', pos, af, gd⟩ 57 (A.eval x) (A.eval y) A W K Q := rfl
theorem st_57_0 {t : TypeId} {op : Op} {ty' : TypeId} {pos : String} {af : Array Edge} {gd : Option (Nat × Bool)} {A : Act} {X : World} {K : Act → World → Prop} {Q : Exit → Act → World → Prop}
    {b : Nat} {C old : Array Value} (hC : IsRow 18 C) (hb : b = X.heap.size) (ho : old.size = 18) :
    St Try.prog ⟨none, op, ty', pos, af, gd⟩ 57 (.pointer (some ⟨b, 0, none⟩)) (.agg C) A (X.alloc (.cells old t)).drew K Q = K A (X.alloc (.cells C t)).drew := st_row0 Try.size57 hC hb ho
theorem st_57_1 {t : TypeId} {op : Op} {ty' : TypeId} {pos : String} {af : Array Edge} {gd : Option (Nat × Bool)} {A : Act} {X : World} {K : Act → World → Prop} {Q : Exit → Act → World → Prop}
    {b : Nat} {C old : Array Value} {o : Obj} (hC : IsRow 18 C) (hb : b = X.heap.size) (ho : old.size = 18) :
    St Try.prog ⟨none, op, ty', pos, af, gd⟩ 57 (.pointer (some ⟨b, 0, none⟩)) (.agg C) A ((X.alloc (.cells old t)).alloc o).drew K Q = K A ((X.alloc (.cells C t)).alloc o).drew := st_row1 Try.size57 hC hb ho
theorem load_51 {ty' : TypeId} {dst : Option Nat} {x : Operand} {pos : String} {af : Array Edge} {gd : Option (Nat × Bool)} {A : Act} {W : World} {K : Act → World → Prop} {Q : Exit → Act → World → Prop} :
    Oper.wp Try.prog ⟨dst, .load 51 x, ty', pos, af, gd⟩ A W K Q = Ld Try.prog ⟨dst, .load 51 x, ty', pos, af, gd⟩ 51 (A.eval x) A W K Q := rfl
theorem store_51 {ty' : TypeId} {x y : Operand} {pos : String} {af : Array Edge} {gd : Option (Nat × Bool)} {A : Act} {W : World} {K : Act → World → Prop} {Q : Exit → Act → World → Prop} :
    Oper.wp Try.prog ⟨none, .store 51 x y, ty', pos, af, gd⟩ A W K Q = St Try.prog ⟨none, .store 51 x y, ty', pos, af, gd⟩ 51 (A.eval x) (A.eval y) A W K Q := rfl
theorem st_51_0 {t : TypeId} {op : Op} {ty' : TypeId} {pos : String} {af : Array Edge} {gd : Option (Nat × Bool)} {A : Act} {X : World} {K : Act → World → Prop} {Q : Exit → Act → World → Prop}
    {b : Nat} {C old : Array Value} (hC : IsRow 8 C) (hb : b = X.heap.size) (ho : old.size = 8) :
    St Try.prog ⟨none, op, ty', pos, af, gd⟩ 51 (.pointer (some ⟨b, 0, none⟩)) (.agg C) A (X.alloc (.cells old t)).drew K Q = K A (X.alloc (.cells C t)).drew := st_row0 Try.size51 hC hb ho
theorem st_51_1 {t : TypeId} {op : Op} {ty' : TypeId} {pos : String} {af : Array Edge} {gd : Option (Nat × Bool)} {A : Act} {X : World} {K : Act → World → Prop} {Q : Exit → Act → World → Prop}
    {b : Nat} {C old : Array Value} {o : Obj} (hC : IsRow 8 C) (hb : b = X.heap.size) (ho : old.size = 8) :
    St Try.prog ⟨none, op, ty', pos, af, gd⟩ 51 (.pointer (some ⟨b, 0, none⟩)) (.agg C) A ((X.alloc (.cells old t)).alloc o).drew K Q = K A ((X.alloc (.cells C t)).alloc o).drew := st_row1 Try.size51 hC hb ho

/-- two blocks, filled one from each of two places: both orders -/
structure Two2 (w w' : World) (b1 b2 : Nat) (C D : Array Value) : Prop where
  one : w'.rangeAt b1 0 C.toList
  two : w'.rangeAt b2 0 D.toList
  lo1 : w.heap.size ≤ b1
  lo2 : w.heap.size ≤ b2
  hi1 : b1 < w.heap.size + 2
  hi2 : b2 < w.heap.size + 2
  below : Below w.heap.size w w'
  size : w.heap.size + 2 ≤ w'.heap.size

theorem Two2.keep {w w' w'' : World} {b1 b2 : Nat} {C D : Array Value} (h : Two2 w w' b1 b2 C D) (hb : Below w'.heap.size w' w'') : Two2 w w'' b1 b2 C D := by
  have := h.size
  have h1 := h.hi1
  have h2 := h.hi2
  exact ⟨rangeAt_below h.one hb (by omega), rangeAt_below h.two hb (by omega), h.lo1, h.lo2, h.hi1, h.hi2, h.below.trans (hb.mono (by omega)), Nat.le_trans this hb.size⟩

theorem Two2.mk1 (w : World) (C D : Array Value) (t : TypeId) : Two2 w (((w.alloc (.cells C t)).alloc (.cells D t)).drew) w.heap.size (w.heap.size + 1) C D where
  one := rangeAt_alloc (rangeAt_new w.drew C t _ rfl) (by simp) _
  two := rangeAt_new (w.drew.alloc _) D t _ (by simp)
  lo1 := Nat.le_refl _
  lo2 := by omega
  hi1 := by omega
  hi2 := by omega
  below := ((Below.refl _ _).drew.alloc (Nat.le_refl _) _).alloc (by simp) _
  size := by simp

theorem Two2.mk2 (w : World) (C D : Array Value) (t : TypeId) : Two2 w (((w.alloc (.cells D t)).alloc (.cells C t)).drew) (w.heap.size + 1) w.heap.size C D where
  one := rangeAt_new (w.drew.alloc _) C t _ (by simp)
  two := rangeAt_alloc (rangeAt_new w.drew D t _ rfl) (by simp) _
  lo1 := by omega
  lo2 := Nat.le_refl _
  hi1 := by omega
  hi2 := by omega
  below := ((Below.refl _ _).drew.alloc (Nat.le_refl _) _).alloc (by simp) _
  size := by simp

/-! what both sides say -/
def keySame (p q : Pr) : Bool := p.kstr.toList == q.kstr.toList && p.ksym == q.ksym
def propSame (n : Nat) (r : List Nat) (m : Nat) (s : List Nat) (p q : Pr) : Bool :=
  keySame p q && (p.d.w == q.d.w) && (p.d.e == q.d.e) && (p.d.c == q.d.c) && pSame n r m s p.d.val q.d.val && pSame n r m s p.d.get q.d.get && pSame n r m s p.d.set q.d.set
def dsDefault : Ds := ⟨⟨0, false, 0, ByteArray.empty, 0⟩, ⟨0, false, 0, ByteArray.empty, 0⟩, ⟨0, false, 0, ByteArray.empty, 0⟩, 0, 0, 0⟩
def prAt (l : List Pr) (j : Nat) : Pr := l.getD j ⟨ByteArray.empty, 0, dsDefault⟩
theorem prAt_get (l : List Pr) (j : Nat) (h : j < l.length) : prAt l j = l[j] := by
  unfold prAt
  rw [List.getD_eq_getElem?_getD, List.getElem?_eq_getElem h]; rfl
def propsSame (n : Nat) (r : List Nat) (m : Nat) (s : List Nat) (ps qs : List Pr) : Bool := (List.range ps.length).all fun j => propSame n r m s (prAt ps j) (prAt qs j)
def shapeSame (n : Nat) (r : List Nat) (m : Nat) (s : List Nat) (p q : Sh) : Bool :=
  (p.cls == q.cls) && (p.ext == q.ext) && pSame n r m s p.proto q.proto && (p.props.length == q.props.length) && propsSame n r m s p.props q.props

theorem propsSame_false {n m : Nat} {r s : List Nat} {ps qs : List Pr} {j : Nat} (hj : j < ps.length) (h : propSame n r m s (prAt ps j) (prAt qs j) = false) : propsSame n r m s ps qs = false := by
  unfold propsSame
  rw [Bool.eq_false_iff]
  intro hh
  have := List.all_eq_true.1 hh j (by simpa using hj)
  rw [h] at this
  cases this
theorem propsSame_true {n m : Nat} {r s : List Nat} {ps qs : List Pr} (h : ∀ j, j < ps.length → propSame n r m s (prAt ps j) (prAt qs j) = true) : propsSame n r m s ps qs = true := by
  unfold propsSame
  exact List.all_eq_true.2 fun j hj => h j (by simpa using hj)

end Go.Proofs.Ytkkcacpcicnihaa
