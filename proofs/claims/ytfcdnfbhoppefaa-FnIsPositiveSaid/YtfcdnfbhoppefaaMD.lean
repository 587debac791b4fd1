/- The machine's operations against those of Go's model: a check by computing, and what it gives. -/
import Derived.Test.YtfcdnfbhoppefaaMC
namespace Go.AM
set_option linter.unusedVariables false
set_option linter.unusedSimpArgs false
open Go.RowKit
def okV1 : Value → AV → Bool
  | .int k n, .int k' n' => kEq k k' && decide (n = n')
  | .bool a, .bool b => a == b
  | .slice none n c, .nils => Nat.beq n 0 && Nat.beq c 0
  | .pointer none, .nilp => true
  | .nilFunc, .nilf => true
  | _, _ => false
def okVs : List Value → List AV → Bool
  | [], [] => true
  | v :: vs, a :: as => okV1 v a && okVs vs as
  | _, _ => false
def okV (v : Value) (a : AV) : Bool := match a with
  | .agg cs => match v with
    | .agg vs => okVs vs.toList cs
    | _ => false
  | .tup cs => match v with
    | .tuple vs => okVs vs.toList cs
    | _ => false
  | a => okV1 v a
def okO (σ : Nat → FuncId) (x : Operand) (y : AO) : Bool := match x with
  | .tmp t => match y with
    | .t t' => Nat.beq t t'
    | _ => false
  | .const v => match y with
    | .c a => okV v a
    | _ => false
  | .func f => match y with
    | .c (.fn g []) => Nat.beq f (σ g)
    | _ => false
  | .global _ => false
def okOs (σ : Nat → FuncId) : List Operand → List AO → Bool
  | [], [] => true
  | x :: xs, y :: ys => okO σ x y && okOs σ xs ys
  | _, _ => false
variable {σ : Nat → FuncId} {w0 : World} {ρ ρ' : Mp} {P : Program}
theorem kEq_eq {k k' : IntKind} (h : kEq k k' = true) : k = k' := by cases k <;> cases k' <;> first | rfl | cases h
theorem okV1_VR {v : Value} {a : AV} (h : okV1 v a = true) : VR σ w0 ρ a v ∧ v.oneCell' = true := by
  unfold okV1 at h
  split at h
  · simp only [Bool.and_eq_true, decide_eq_true_eq] at h
    obtain ⟨h1, rfl⟩ := h
    obtain rfl := kEq_eq h1
    exact ⟨.int _ _, rfl⟩
  · obtain rfl := eq_of_beq h
    exact ⟨.bool _, rfl⟩
  · simp only [Bool.and_eq_true] at h
    obtain rfl := Nat.eq_of_beq_eq_true h.1
    obtain rfl := Nat.eq_of_beq_eq_true h.2
    exact ⟨.nils, rfl⟩
  · exact ⟨.nilp, rfl⟩
  · exact ⟨.nilf, rfl⟩
  · cases h
theorem okVs_VL : ∀ {vs : List Value} {as : List AV}, okVs vs as = true → VL σ w0 ρ as vs
  | [], [], _ => VL.nil
  | [], _ :: _, h => by simp [okVs] at h
  | _ :: _, [], h => by simp [okVs] at h
  | v :: vs, a :: as, h => by
    simp only [okVs, Bool.and_eq_true] at h
    have h1 := okV1_VR (σ := σ) (w0 := w0) (ρ := ρ) h.1
    have h2 := okVs_VL h.2
    refine ⟨by rw [List.length_cons, List.length_cons, h2.1], fun j x u hx hu => ?_⟩
    cases j with
    | zero => simp at hx hu; subst hx; subst hu; exact h1
    | succ j => exact h2.2 j x u (by simpa using hx) (by simpa using hu)
theorem okV_VR {v : Value} {a : AV} (h : okV v a = true) : VR σ w0 ρ a v := by
  unfold okV at h
  split at h
  · split at h
    · exact (okVs_VL h).agg
    · cases h
  · split at h
    · rename_i cs _ vs
      have := okVs_VL (σ := σ) (w0 := w0) (ρ := ρ) h
      exact .tup _ _ (by simpa using this.1) (fun j a v h1 h2 => (this.2 j a v h1 (by simpa using h2)).1)
    · cases h
  · exact (okV1_VR h).1
/-- A frame. -/
def FrR (σ : Nat → FuncId) (w0 : World) (ρ : Mp) (fr : Fr) (tmps : Array Value) : Prop := tmps.size = fr.length ∧ ∀ i, VR σ w0 ρ (fr.at i) (tmps.getD i undef)
theorem FrR.mono (hle : ρ.le ρ') {fr : Fr} {t : Array Value} (h : FrR σ w0 ρ fr t) : FrR σ w0 ρ' fr t := ⟨h.1, fun i => (h.2 i).mono hle⟩
theorem FrR.put {fr : Fr} {t : Array Value} (h : FrR σ w0 ρ fr t) (d : Nat) {v : AV} {u : Value} (hv : VR σ w0 ρ v u) : FrR σ w0 ρ (fr.put d v) (t.setIfInBounds d u) := by
  refine ⟨by rw [Array.size_setIfInBounds, Fr.length_put, h.1], fun i => ?_⟩
  rw [Fr.at_put]
  by_cases hi : i = d ∧ d < fr.length
  · rw [if_pos hi, hi.1]
    have : (t.setIfInBounds d u).getD d undef = u := by
      simp [Array.getD_eq_getD_getElem?, show d < t.size by rw [h.1]; exact hi.2]
    rw [this]; exact hv
  · rw [if_neg hi]
    have : (t.setIfInBounds d u).getD i undef = t.getD i undef := by
      simp only [Array.getD_eq_getD_getElem?, Array.getElem?_setIfInBounds]
      split
      · rename_i e
        split
        · rename_i e2; exact absurd ⟨e.symm, by rw [← h.1]; exact e2⟩ hi
        · rename_i e2; subst e; rw [Array.getElem?_eq_none (by omega)]
      · rfl
    rw [this]; exact h.2 i
theorem FrR.putSame {fr : Fr} {t : Array Value} (h : FrR σ w0 ρ fr t) (d : Nat) {v : AV} (hv : fr.at d = v) : FrR σ w0 ρ (fr.put d v) t := by
  refine ⟨by rw [Fr.length_put, h.1], fun i => ?_⟩
  rw [Fr.at_put]
  split
  · rename_i hi; rw [hi.1, ← hv]; exact h.2 d
  · exact h.2 i
theorem FrR.norm {fr fr' : Fr} {t : Array Value} (h : FrR σ w0 ρ fr t) (n : NormR fr fr') : FrR σ w0 ρ fr' t := by
  refine ⟨by rw [n.1, h.1], fun i => ?_⟩
  rcases n.2 i with e | e
  · rw [e]; exact .junk _
  · rw [e]; exact h.2 i
theorem okO_VR {x : Operand} {y : AO} {fr : Fr} {a : Act} (h : okO σ x y = true) (hf : FrR σ w0 ρ fr a.tmps) : VR σ w0 ρ (ev fr y) (a.eval x) := by
  unfold okO at h
  split at h
  · split at h
    · obtain rfl := Nat.eq_of_beq_eq_true h
      exact hf.2 _
    · cases h
  · split at h
    · exact okV_VR h
    · cases h
  · split at h
    · obtain rfl := Nat.eq_of_beq_eq_true h
      exact .fn _ [] #[] rfl (fun j a v h => by simp at h)
    · cases h
  · cases h
theorem okOs_VA {fr : Fr} {a : Act} (hf : FrR σ w0 ρ fr a.tmps) : ∀ {xs : List Operand} {ys : List AO}, okOs σ xs ys = true → VA σ w0 ρ (evs fr ys) (xs.map a.eval)
  | [], [], _ => ⟨rfl, fun j a v h => by simp [evs] at h⟩
  | [], _ :: _, h => by simp [okOs] at h
  | _ :: _, [], h => by simp [okOs] at h
  | x :: xs, y :: ys, h => by
    simp only [okOs, Bool.and_eq_true] at h
    have h1 := okO_VR h.1 hf
    have h2 := okOs_VA hf h.2
    refine ⟨by rw [List.map_cons, List.length_cons, h2.1]; rfl, fun j u v hu hv => ?_⟩
    cases j with
    | zero =>
      have e1 : some (ev fr y) = some u := hu
      have e2 : some (a.eval x) = some v := by simpa using hv
      cases e1; cases e2; exact h1
    | succ j => exact h2.2 j u v hu (by simpa using hv)

/-! ### What is checked of an operation -/
def szOf (P : Program) (t : TypeId) : Option Nat := (P.info? t).map (·.size)
def byOf (P : Program) (t : TypeId) : Option Nat := (P.info? t).map (·.bytes)
def elemOfS (P : Program) (t : TypeId) : Option TypeId := match P.underlying t with
  | some (.slice e) => some e
  | _ => none
def isNat (x : Option Nat) (n : Nat) : Bool := match x with
  | some m => Nat.beq m n
  | none => false
def zeroOk (P : Program) (t : TypeId) (cs : List AV) : Bool := match P.info? t with
  | some i => match i.zero with
    | some v => okVs v.cells.toList cs
    | none => false
  | none => false
def shapeOk (P : Program) (t : TypeId) (n : Option Nat) : Bool := match P.underlying t with
  | some (.struct _) => match n with
    | some n => isNat (szOf P t) n
    | none => false
  | some (.array _ _) => match n with
    | some n => isNat (szOf P t) n
    | none => false
  | some _ => match n with
    | some _ => false
    | none => true
  | none => false
def partsOk (σ : Nat → FuncId) (place : Nat → Option (Nat × Nat)) : List (Nat × Operand) → List (Nat × Nat × AO) → Bool
  | [], [] => true
  | (i, x) :: ps, (o, n, y) :: qs => (match place i with
    | some (o', n') => Nat.beq o o' && Nat.beq n n'
    | none => false) && okO σ x y && partsOk σ place ps qs
  | _, _ => false
def places (P : Program) (fs : Array Field) (i : Nat) : Option (Nat × Nat) := match fs[i]? with
  | some f => (szOf P f.type).map fun n => (f.offset, n)
  | none => none
def binOk : BinOp → ABin → Bool
  | .add, .add | .sub, .sub | .mul, .mul | .quo, .quo | .rem, .rem | .and, .and | .or, .or | .xor, .xor | .andNot, .andNot | .shl, .shl | .shr, .shr | .eql, .eql | .neq, .neq | .lss, .lss | .leq, .leq | .gtr, .gtr | .geq, .geq => true
  | _, _ => false
/-- All of a struct's fields have a size. -/
def fieldsOk (P : Program) (fs : Array Field) : Bool := fs.all fun f => (szOf P f.type).isSome
def optOk (σ : Nat → FuncId) : Option Operand → Option AO → Bool
  | none, none => true
  | some x, some y => okO σ x y
  | _, _ => false
def callB (c : Call) : Option (Builtin × List Operand × List TypeId) := match c.callee with
  | .builtin b => some (b, c.args.toList, c.argTypes.toList)
  | _ => none
theorem callB_eq {c : Call} {b : Builtin} {xs : List Operand} {ts : List TypeId} (h : callB c = some (b, xs, ts)) : c = { callee := .builtin b, args := xs.toArray, argTypes := ts.toArray } := by
  obtain ⟨cal, as, us⟩ := c
  unfold callB at h
  split at h
  · rename_i h1
    cases h
    cases h1
    simp
  · cases h
def okOp (P : Program) (σ : Nat → FuncId) (op : Op) : AOp → Bool
  | .move y => match op with
    | .move x => okO σ x y
    | .assign x => okO σ x y
    | _ => false
  | .pick c a b => match op with
    | .pick c' a' b' => okO σ c' c && okO σ a' a && okO σ b' b
    | _ => false
  | .new cs => match op with
    | .alloc t => zeroOk P t cs
    | _ => false
  | .box y => match op with
    | .box _ x => okO σ x y
    | _ => false
  | .build z qs => match op with
    | .build t ps => zeroOk P t z && (match P.underlying t with
      | some (.struct fs) => fieldsOk P fs && partsOk σ (places P fs) ps.toList qs
      | some (.array _ e) => match szOf P e with
        | some n => partsOk σ (fun i => some (i * n, n)) ps.toList qs
        | none => false
      | _ => false)
    | _ => false
  | .buildS n s z qs => match op with
    | .buildSlice t len ps => Nat.beq n len && (match elemOfS P t with
      | some e => isNat (szOf P e) s && Nat.ble (n * s) (2 ^ 24) && (match P.info? e with
        | some i => match i.zero with
          | some v => Nat.beq v.cells.size s && okVs (List.replicate n v.cells.toList).flatten z
          | none => false
        | none => false) && partsOk σ (fun i => some (i * s, s)) ps.toList qs
      | none => false)
    | _ => false
  | .load n y => match op with
    | .load t x => shapeOk P t n && okO σ x y
    | _ => false
  | .store n y z => match op with
    | .store t x u => isNat (szOf P t) n && okO σ x y && okO σ u z
    | _ => false
  | .nilck y => match op with
    | .nilCheck x => okO σ x y
    | _ => false
  | .bin o y z => match op with
    | .binOp o' _ x u _ => binOk o' o && okO σ x y && okO σ u z
    | _ => false
  | .eqa _ _ _ => false
  | .eqb ng y z => match op with
    | .binOp o t x u _ => (match o with
      | .eql => !ng
      | .neq => ng
      | _ => false) && okO σ x y && okO σ u z && (match P.underlying t with
        | some .bool => true
        | _ => false)
    | _ => false
  | .isnil ng y => match op with
    | .binOp o t x u _ => (match o with
      | .eql => !ng
      | .neq => ng
      | _ => false) && okO σ x y && (elemOfS P t).isSome && (match u with
        | .const (.slice none _ _) => true
        | _ => false)
    | _ => false
  | .not y => match op with
    | .unOp .not _ x => okO σ x y
    | _ => false
  | .neg y => match op with
    | .unOp .neg _ x => okO σ x y
    | _ => false
  | .conv k y => match op with
    | .convert s t x => (P.underlying s).isSome && (match P.underlying t with
      | some (.int k') => kEq k k'
      | _ => false) && okO σ x y
    | _ => false
  | .mkfn f ys => match op with
    | .makeFunc (.func g) first xs => Nat.beq g (σ f) && first.isEmpty && okOs σ xs.toList ys
    | _ => false
  | .mkS s b z y => match op with
    | .makeSlice t l c => (match elemOfS P t with
      | some e => isNat (szOf P e) s && isNat (byOf P e) b && zeroOk P e z && Nat.beq z.length s
      | none => false) && okO σ l y && okO σ c y
    | _ => false
  | .slice s y lo hi => match op with
    | .slice t x l u m => (match elemOfS P t with
      | some e => isNat (szOf P e) s
      | none => false) && okO σ x y && optOk σ l lo && optOk σ u hi && m.isNone
    | _ => false
  | .fld o y => match op with
    | .fieldAddr t x i => (match P.underlying t with
      | some (.struct fs) => match fs[i]? with
        | some f => Nat.beq f.offset o && (match szOf P f.type with
          | some (_ + 1) => true
          | _ => false)
        | none => false
      | _ => false) && okO σ x y
    | _ => false
  | .field o n y => match op with
    | .field t x i => (match P.underlying t with
      | some (.struct fs) => match fs[i]? with
        | some f => Nat.beq f.offset o && shapeOk P f.type n
        | none => false
      | _ => false) && okO σ x y
    | _ => false
  | .idx s y z => match op with
    | .indexAddr t x i => (match elemOfS P t with
      | some e => isNat (szOf P e) s
      | none => false) && okO σ x y && okO σ i z
    | _ => false
  | .idxA l s y z => match op with
    | .indexAddr t x i => (match P.underlying t with
      | some (.array n e) => Nat.beq n l && isNat (szOf P e) s
      | _ => false) && okO σ x y && okO σ i z
    | _ => false
  | .extract y i => match op with
    | .extract x j => okO σ x y && Nat.beq i j
    | _ => false
  | .call f ys => match op with
    | .call { callee := .value (.func g), args := xs, .. } => Nat.beq g (σ f) && okOs σ xs.toList ys
    | _ => false
  | .callv y ys => match op with
    | .call { callee := .value x, args := xs, .. } => okO σ x y && okOs σ xs.toList ys
    | _ => false
  | .len y => match op with
    | .call c => match callB c with
      | some (.len, [x], [t]) => okO σ x y && (elemOfS P t).isSome
      | _ => false
    | _ => false
  | .app s b y z => match op with
    | .call c => match callB c with
      | some (.append, [x, u], [t, t']) => Nat.beq t t' && okO σ x y && okO σ u z && (match elemOfS P t with
        | some e => isNat (szOf P e) s && isNat (byOf P e) b && (match P.info? e with
          | some i => match i.zero with
            | some v => Nat.beq v.cells.size s
            | none => false
          | none => false)
        | none => false)
      | _ => false
    | _ => false
  | .clear s z y => match op with
    | .call c => match callB c with
      | some (.clear, [x], [t]) => okO σ x y && (match elemOfS P t with
        | some e => zeroOk P e z && Nat.beq z.length s
        | none => false)
      | _ => false
    | _ => false
  | .copy _ _ _ => false
  | .min y z => match op with
    | .call c => match callB c with
      | some (.min, [x, u], _) => okO σ x y && okO σ u z
      | _ => false
    | _ => false
  | .max y z => match op with
    | .call c => match callB c with
      | some (.max, [x, u], _) => okO σ x y && okO σ u z
      | _ => false
    | _ => false
theorem isNat_eq {x : Option Nat} {n : Nat} (h : isNat x n = true) : x = some n := by
  unfold isNat at h
  split at h
  · rw [Nat.eq_of_beq_eq_true h]
  · cases h
theorem szOf_info {t : TypeId} {n : Nat} (h : szOf P t = some n) : ∃ i, P.info? t = some i ∧ i.size = n := by
  unfold szOf at h
  cases hi : P.info? t with
  | none => rw [hi] at h; cases h
  | some i => rw [hi] at h; exact ⟨i, rfl, by simpa using h⟩
theorem elemOfS_und {t e : TypeId} (h : elemOfS P t = some e) : P.underlying t = some (.slice e) := by
  unfold elemOfS at h
  split at h
  · rename_i h2; cases h; exact h2
  · cases h
theorem run_sizeOf {t : TypeId} {n : Nat} (h : szOf P t = some n) (w : World) : (sizeOf t).run P w = .ok n w := by
  obtain ⟨i, h1, h2⟩ := szOf_info h
  simp [sizeOf, typeInfo, h1, h2]
theorem zeroOk_run {t : TypeId} {cs : List AV} (h : zeroOk P t cs = true) : ∃ v, (∀ w, (zeroValue t).run P w = .ok v w) ∧ ∀ ρ, VL σ w0 ρ cs v.cells.toList := by
  unfold zeroOk at h
  split at h
  · rename_i i hi
    split at h
    · rename_i v hv
      exact ⟨v, fun w => by simp [zeroValue, typeInfo, hi, hv], fun ρ => okVs_VL h⟩
    · cases h
  · cases h
end Go.AM
