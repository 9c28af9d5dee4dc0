
/- A region that draws its order may be walked in the text's order, where of any two operations that may be exchanged one only reckons. No condition. -/
import Derived.Orders
import Derived.Tactics
namespace Go.Proofs.Ytfjadphgjjlhiaa
namespace Reg
set_option linter.unusedVariables false

/-! ### Computations that neither read nor turn the world -/
/-- It yields one value in every world, or none in any. -/
def Calm {α : Type} (P : Program) (s : Sem α) : Prop := (∃ v, ∀ w, s.run P w = .ok v w) ∨ (∀ w, ∃ h w', s.run P w = .halt h w')
theorem run_bind' {α β : Type} (P : Program) (s : Sem α) (f : α → Sem β) (w : World) : (s >>= f).run P w = (match s.run P w with | .ok v w' => (f v).run P w' | .halt h w' => .halt h w') := by
  rw [Sem.run_bind]; cases s.run P w <;> rfl
section
variable {P : Program}
theorem Calm.pure {α : Type} (v : α) : Calm P (Pure.pure v : Sem α) := .inl ⟨v, fun _ => rfl⟩
theorem Calm.bind {α β : Type} {s : Sem α} {f : α → Sem β} (hs : Calm P s) (hf : ∀ v, Calm P (f v)) : Calm P (s >>= f) := by
  rcases hs with ⟨v, hv⟩ | hh
  · rcases hf v with ⟨u, hu⟩ | hh
    · exact .inl ⟨u, fun w => by rw [run_bind', hv w]; exact hu w⟩
    · exact .inr fun w => by rw [run_bind', hv w]; exact hh w
  · exact .inr fun w => by
      obtain ⟨h, w', e⟩ := hh w
      exact ⟨h, w', by rw [run_bind', e]⟩
theorem Calm.halt {α : Type} (h : Halt) : Calm P (Sem.halt h : Sem α) := .inr fun w => ⟨h, w, rfl⟩
theorem Calm.program : Calm P program := .inl ⟨P, fun _ => rfl⟩
theorem Calm.stuck {α : Type} (s : String) : Calm P (Go.stuck s : Sem α) := .halt _
theorem Calm.unsupported {α : Type} (u : Unsupported) : Calm P (Go.unsupported u : Sem α) := .halt _
theorem Calm.goPanic {α : Type} (v : Value) : Calm P (Go.goPanic v : Sem α) := .halt _
theorem panic_halts {α : Type} (v : Value) (w : World) : ∃ h w', (Go.goPanic v : Sem α).run P w = .halt h w' := ⟨_, _, rfl⟩
theorem Calm.bounds {α : Type} (x y : Int) (s : Bool) (c : BoundsCode) : Calm P (Go.runtimePanic (.bounds x y s c) : Sem α) := .inr fun w => ⟨_, _, rfl⟩
theorem Calm.errorPanic {α : Type} (m : String) : Calm P (Go.runtimePanic (.error m) : Sem α) := .inr fun w => ⟨_, _, rfl⟩
theorem Calm.nilPanic {α : Type} : Calm P (Go.runtimePanic .nilDeref : Sem α) := .inr fun w => ⟨_, _, rfl⟩
theorem bounds_halts {α : Type} (k : IntKind) (x y : Int) (c : BoundsCode) (w : World) : ∃ h w', (Go.boundsPanic k x y c : Sem α).run P w = .halt h w' := by
  unfold Go.boundsPanic
  dsimp only
  split
  · rw [run_bind']
    split
    · exact ⟨_, _, rfl⟩
    · exact ⟨_, _, rfl⟩
  · exact ⟨_, _, rfl⟩
theorem Calm.boundsPanic {α : Type} (k : IntKind) (x y : Int) (c : BoundsCode) : Calm P (Go.boundsPanic k x y c : Sem α) := .inr (bounds_halts k x y c)
theorem Calm.typeInfo (t : TypeId) : Calm P (Go.typeInfo t) := by
  unfold Go.typeInfo
  refine Calm.bind Calm.program fun p => ?_
  split <;> first | exact Calm.pure _ | exact Calm.stuck _
theorem Calm.underlying (t : TypeId) : Calm P (Go.underlying t) := by
  unfold Go.underlying
  refine Calm.bind Calm.program fun p => ?_
  split <;> first | exact Calm.pure _ | exact Calm.stuck _
theorem Calm.sizeOf (t : TypeId) : Calm P (Go.sizeOf t) := Calm.bind (Calm.typeInfo t) fun _ => Calm.pure _
theorem Calm.isAgg (t : TypeId) : Calm P (Go.isAgg t) := Calm.bind (Calm.underlying t) fun _ => by split <;> exact Calm.pure _
theorem Calm.asIntOf (v : Value) : Calm P (Go.asIntOf v) := by
  unfold Go.asIntOf; split <;> first | exact Calm.pure _ | exact Calm.halt _
theorem Calm.asBool (v : Value) : Calm P (Go.asBool v) := by
  unfold Go.asBool; split <;> first | exact Calm.pure _ | exact Calm.halt _
theorem Calm.asAgg (v : Value) : Calm P (Go.asAgg v) := by
  unfold Go.asAgg; split <;> first | exact Calm.pure _ | exact Calm.halt _
theorem Calm.asAddr (v : Value) : Calm P (Go.asAddr v) := by
  unfold Go.asAddr; split <;> first | exact Calm.pure _ | exact Calm.halt _ | exact Calm.nilPanic
theorem Calm.sureAddr (v : Value) : Calm P (Go.Instr.sureAddr v) := by
  unfold Go.Instr.sureAddr; split <;> first | exact Calm.pure _ | exact Calm.halt _
theorem Calm.ite {α : Type} {c : Prop} [Decidable c] {s t : Sem α} (hs : Calm P s) (ht : Calm P t) : Calm P (if c then s else t) := by split <;> assumption
theorem Calm.part (t : TypeId) (cs : Array Value) (off : Nat) : Calm P (Go.part t cs off) := by
  unfold Go.part
  repeat' (first | exact Calm.pure _ | exact Calm.stuck _ | exact Calm.unsupported _ | exact Calm.boundsPanic _ _ _ _ | exact Calm.nilPanic | exact Calm.errorPanic _ | exact Calm.underlying _ | exact Calm.sizeOf _ | exact Calm.isAgg _ | exact Calm.asIntOf _ | exact Calm.asBool _ | exact Calm.asAgg _ | exact Calm.asAddr _ | exact Calm.sureAddr _ | exact Calm.program | refine Calm.bind ?_ (fun _ => ?_) | split | dsimp only)
theorem Calm.extract (t : Value) (i : Nat) : Calm P (Go.Instr.extract t i) := by
  unfold Go.Instr.extract
  repeat' (first | exact Calm.pure _ | exact Calm.stuck _ | exact Calm.unsupported _ | exact Calm.boundsPanic _ _ _ _ | exact Calm.nilPanic | exact Calm.errorPanic _ | exact Calm.underlying _ | exact Calm.sizeOf _ | exact Calm.isAgg _ | exact Calm.asIntOf _ | exact Calm.asBool _ | exact Calm.asAgg _ | exact Calm.asAddr _ | exact Calm.sureAddr _ | exact Calm.program | refine Calm.bind ?_ (fun _ => ?_) | split | dsimp only)
theorem Calm.indexAt (t : TypeId) (x ix : Value) : Calm P (Go.Instr.indexAt t x ix) := by
  unfold Go.Instr.indexAt
  repeat' (first | exact Calm.pure _ | exact Calm.stuck _ | exact Calm.unsupported _ | exact Calm.boundsPanic _ _ _ _ | exact Calm.nilPanic | exact Calm.errorPanic _ | exact Calm.underlying _ | exact Calm.sizeOf _ | exact Calm.isAgg _ | exact Calm.asIntOf _ | exact Calm.asBool _ | exact Calm.asAgg _ | exact Calm.asAddr _ | exact Calm.sureAddr _ | exact Calm.program | refine Calm.bind ?_ (fun _ => ?_) | split | dsimp only)
theorem Calm.index (t : TypeId) (x ix : Value) : Calm P (Go.Instr.index t x ix) := by
  unfold Go.Instr.index
  repeat' (first | exact Calm.pure _ | exact Calm.stuck _ | exact Calm.unsupported _ | exact Calm.boundsPanic _ _ _ _ | exact Calm.nilPanic | exact Calm.errorPanic _ | exact Calm.underlying _ | exact Calm.sizeOf _ | exact Calm.isAgg _ | exact Calm.asIntOf _ | exact Calm.asBool _ | exact Calm.asAgg _ | exact Calm.asAddr _ | exact Calm.sureAddr _ | exact Calm.part _ _ _ | exact Calm.program | refine Calm.bind ?_ (fun _ => ?_) | split | dsimp only)
theorem Calm.field (t : TypeId) (x : Value) (f : Nat) : Calm P (Go.Instr.field t x f) := by
  unfold Go.Instr.field
  repeat' (first | exact Calm.pure _ | exact Calm.stuck _ | exact Calm.unsupported _ | exact Calm.boundsPanic _ _ _ _ | exact Calm.nilPanic | exact Calm.errorPanic _ | exact Calm.underlying _ | exact Calm.sizeOf _ | exact Calm.isAgg _ | exact Calm.asIntOf _ | exact Calm.asBool _ | exact Calm.asAgg _ | exact Calm.asAddr _ | exact Calm.sureAddr _ | exact Calm.part _ _ _ | exact Calm.program | refine Calm.bind ?_ (fun _ => ?_) | split | dsimp only)
theorem Calm.sliceBound (x : Value) (y : Nat) (c : BoundsCode) : Calm P (Go.Instr.sliceBound x y c) := by
  unfold Go.Instr.sliceBound
  repeat' (first | exact Calm.pure _ | exact Calm.stuck _ | exact Calm.unsupported _ | exact Calm.boundsPanic _ _ _ _ | exact Calm.nilPanic | exact Calm.errorPanic _ | exact Calm.underlying _ | exact Calm.sizeOf _ | exact Calm.isAgg _ | exact Calm.asIntOf _ | exact Calm.asBool _ | exact Calm.asAgg _ | exact Calm.asAddr _ | exact Calm.sureAddr _ | exact Calm.program | refine Calm.bind ?_ (fun _ => ?_) | split | dsimp only)
theorem Calm.sliceBounds (b : Bool) (len cap : Nat) (lo hi mx : Option Value) : Calm P (Go.Instr.sliceBounds b len cap lo hi mx) := by
  unfold Go.Instr.sliceBounds
  repeat' (first | exact Calm.pure _ | exact Calm.stuck _ | exact Calm.unsupported _ | exact Calm.boundsPanic _ _ _ _ | exact Calm.nilPanic | exact Calm.errorPanic _ | exact Calm.underlying _ | exact Calm.sizeOf _ | exact Calm.isAgg _ | exact Calm.asIntOf _ | exact Calm.asBool _ | exact Calm.asAgg _ | exact Calm.asAddr _ | exact Calm.sureAddr _ | exact Calm.sliceBound _ _ _ | exact Calm.program | refine Calm.bind ?_ (fun _ => ?_) | split | dsimp only)
theorem Calm.slice (t : TypeId) (x : Value) (lo hi mx : Option Value) : Calm P (Go.Instr.slice t x lo hi mx) := by
  unfold Go.Instr.slice
  repeat' (first | exact Calm.pure _ | exact Calm.stuck _ | exact Calm.unsupported _ | exact Calm.boundsPanic _ _ _ _ | exact Calm.nilPanic | exact Calm.errorPanic _ | exact Calm.underlying _ | exact Calm.sizeOf _ | exact Calm.isAgg _ | exact Calm.asIntOf _ | exact Calm.asBool _ | exact Calm.asAgg _ | exact Calm.asAddr _ | exact Calm.sureAddr _ | exact Calm.sliceBounds _ _ _ _ _ _ | exact Calm.program | refine Calm.bind ?_ (fun _ => ?_) | split | dsimp only)
theorem Calm.sliceAt (t : TypeId) (x : Value) (lo hi mx : Option Value) : Calm P (Go.Instr.sliceAt t x lo hi mx) := by
  unfold Go.Instr.sliceAt
  repeat' (first | exact Calm.pure _ | exact Calm.stuck _ | exact Calm.unsupported _ | exact Calm.boundsPanic _ _ _ _ | exact Calm.nilPanic | exact Calm.errorPanic _ | exact Calm.underlying _ | exact Calm.sizeOf _ | exact Calm.isAgg _ | exact Calm.asIntOf _ | exact Calm.asBool _ | exact Calm.asAgg _ | exact Calm.asAddr _ | exact Calm.sureAddr _ | exact Calm.sliceBounds _ _ _ _ _ _ | exact Calm.slice _ _ _ _ _ | exact Calm.program | refine Calm.bind ?_ (fun _ => ?_) | split | dsimp only)
theorem Calm.intArith (op : BinOp) (k : IntKind) (a b : Int) : Calm P (Op.intArith op k a b) := by
  unfold Op.intArith; split <;> first | exact Calm.pure _ | exact Calm.stuck _
theorem Calm.intBits (op : BinOp) (k : IntKind) (a b : Int) : Calm P (Op.intBits op k a b) := by
  unfold Op.intBits; dsimp only; split <;> first | exact Calm.pure _ | exact Calm.stuck _
theorem Calm.intCmp (op : BinOp) (a b : Int) : Calm P (Op.intCmp op a b) := by
  unfold Op.intCmp; split <;> first | exact Calm.pure _ | exact Calm.stuck _
theorem Calm.intDiv (op : BinOp) (k : IntKind) (a b : Int) : Calm P (Op.intDiv op k a b) := by
  unfold Op.intDiv
  refine Calm.ite (Calm.errorPanic _) ?_
  split <;> first | exact Calm.pure _ | exact Calm.stuck _
theorem Calm.shift (op : BinOp) (k : IntKind) (a : Int) (k' : IntKind) (b : Int) : Calm P (Op.shift op k a k' b) := by
  unfold Op.shift
  refine Calm.ite (Calm.errorPanic _) ?_
  dsimp only
  split <;> first | exact Calm.pure _ | exact Calm.stuck _
theorem Calm.stringOp (op : BinOp) (a b : ByteArray) : Calm P (Op.stringOp op a b) := by
  unfold Op.stringOp; dsimp only
  split <;> first | exact Calm.pure _ | exact Calm.stuck _ | exact Calm.ite (Calm.unsupported _) (Calm.pure _)
theorem Calm.unary (op : UnOp) (x : Value) : Calm P (Op.unary op x) := by
  unfold Op.unary; split <;> first | exact Calm.pure _ | exact Calm.stuck _ | exact Calm.unsupported _ | exact Calm.intArith _ _ _ _ | exact Calm.intBits _ _ _ _
theorem Calm.binInt (op : BinOp) (t : TypeId) (k k' : IntKind) (a b : Int) : Calm P (Go.binOp op t (.int k a) (.int k' b)) := by
  cases op <;> simp only [Go.binOp] <;> first | exact Calm.shift _ _ _ _ _ | exact Calm.ite (Calm.stuck _) (Calm.intArith _ _ _ _) | exact Calm.ite (Calm.stuck _) (Calm.intDiv _ _ _ _) | exact Calm.ite (Calm.stuck _) (Calm.intBits _ _ _ _) | exact Calm.ite (Calm.stuck _) (Calm.intCmp _ _ _)
theorem Calm.binString (op : BinOp) (t : TypeId) (a b : ByteArray) : Calm P (Go.binOp op t (.string a) (.string b)) := by
  cases op <;> simp only [Go.binOp] <;> exact Calm.stringOp _ _ _
theorem Calm.eqGuardInt (op : BinOp) (t : TypeId) (x y : Operand) (k k' : IntKind) (a b : Int) : Calm P (Go.eqGuard op t x y (.int k a) (.int k' b)) := by
  unfold Go.eqGuard; repeat' (first | exact Calm.pure _ | split | dsimp only)
theorem Calm.eqGuardString (op : BinOp) (t : TypeId) (x y : Operand) (a b : ByteArray) : Calm P (Go.eqGuard op t x y (.string a) (.string b)) := by
  unfold Go.eqGuard; repeat' (first | exact Calm.pure _ | split | dsimp only)
theorem Calm.len (ts : Array TypeId) (t : TypeId) (s : ByteArray) : Calm P (Builtin.len_ ts t #[.string s]) := by
  unfold Builtin.len_
  repeat' (first | exact Calm.pure _ | exact Calm.stuck _ | exact Calm.underlying _ | refine Calm.bind ?_ (fun _ => ?_) | split | dsimp only)
  all_goals simp_all
theorem Calm.lenSlice (ts : Array TypeId) (t : TypeId) (a : Option Addr) (n c : Nat) : Calm P (Builtin.len_ ts t #[.slice a n c]) := by
  unfold Builtin.len_
  repeat' (first | exact Calm.pure _ | exact Calm.stuck _ | exact Calm.underlying _ | refine Calm.bind ?_ (fun _ => ?_) | split | dsimp only)
  all_goals simp_all
theorem Calm.maxInt (ts : Array TypeId) (t : TypeId) (k k' : IntKind) (a b : Int) : Calm P (Builtin.max_ ts t #[.int k a, .int k' b]) := .inl ⟨.int k (if b > a then b else a), fun _ => rfl⟩
theorem Calm.minInt (ts : Array TypeId) (t : TypeId) (k k' : IntKind) (a b : Int) : Calm P (Builtin.min_ ts t #[.int k a, .int k' b]) := .inl ⟨_, fun _ => rfl⟩
theorem run_und {t : TypeId} {d : TypeDesc} (h : P.underlying t = some d) (w : World) : (Go.underlying t).run P w = .ok d w := by
  unfold Go.underlying
  rw [run_bind', show (Go.program).run P w = .ok P w from rfl]
  simp only [h]; rfl
theorem run_size {t : TypeId} {i : TypeInfo} (h : P.info? t = some i) (w : World) : (Go.sizeOf t).run P w = .ok i.size w := by
  unfold Go.sizeOf Go.typeInfo
  rw [run_bind', run_bind', show (Go.program).run P w = .ok P w from rfl]
  simp only [h]; rfl
theorem Calm.convertInt (src dst : TypeId) (k j : IntKind) (n : Int) (hd : P.underlying dst = some (.int j)) : Calm P (Go.convert src dst (.int k n)) := by
  unfold Go.convert
  refine Calm.bind (Calm.underlying _) fun d => ?_
  refine .inl ⟨.int j (j.wrap n), fun w => ?_⟩
  rw [run_bind', run_und hd]
  cases d <;> rfl

/-! ### Which operations only reckon, at a frame -/
def bothInts : Value → Value → Bool
  | .int .., .int .. => true
  | .string _, .string _ => true
  | _, _ => false
def isInt : Value → Bool
  | .int .. => true
  | _ => false
def isPlace : Value → Bool
  | .pointer (some _) => true
  | _ => false
def hasLen : Value → Bool
  | .string _ => true
  | .slice .. => true
  | _ => false
def isIntT (P : Program) (t : TypeId) : Bool := match P.underlying t with | some (.int _) => true | _ => false
def fieldOk (P : Program) (s : TypeId) (f : Nat) : Bool :=
  match P.underlying s with
  | some (.struct fields) => (match fields[f]? with | some g => (match P.info? g.type with | some i => i.size != 0 | none => false) | none => false)
  | _ => false
def callKind (c : Call) : Bool :=
  match c.callee with
  | .builtin .len => true
  | .builtin .max => true
  | .builtin .min => true
  | _ => false
def callNow (c : Call) (vs : Array Value) : Bool :=
  match c.callee with
  | .builtin .len => vs.size == 1 && hasLen (vs.getD 0 undef)
  | _ => vs.size == 2 && isInt (vs.getD 0 undef) && isInt (vs.getD 1 undef)
/-- May the operation, by its form, be one that only reckons? -/
def kind (P : Program) (o : Oper) : Bool :=
  match o.op with
  | .move _ | .assign _ | .pick .. | .extract .. | .unOp .. | .indexAddr .. | .index .. | .field .. | .slice .. | .nilCheck _ | .binOp .. => true
  | .fieldAddr s _ f => fieldOk P s f
  | .convert _ dst _ => isIntT P dst
  | .call c => callKind c
  | _ => false
/-- Does it, with what the slots hold? -/
def now (ρ : Operand → Value) (o : Oper) : Bool :=
  match o.op with
  | .nilCheck x => isPlace (ρ x)
  | .binOp _ _ x y _ => bothInts (ρ x) (ρ y)
  | .convert _ _ x => isInt (ρ x)
  | .call c => callNow c (c.args.map ρ)
  | _ => true
/-- It yields one value for the operation's slot, or none in any world. -/
def CalmV (P : Program) (s : Sem Next) : Prop := (∃ v, ∀ w, s.run P w = .ok (.value v) w) ∨ (∀ w, ∃ h w', s.run P w = .halt h w')
theorem CalmV.pure (v : Value) : CalmV P (Pure.pure (Next.value v)) := .inl ⟨v, fun _ => rfl⟩
theorem CalmV.bind {α : Type} {s : Sem α} {f : α → Sem Next} (hs : Calm P s) (hf : ∀ v, CalmV P (f v)) : CalmV P (s >>= f) := by
  rcases hs with ⟨v, hv⟩ | hh
  · rcases hf v with ⟨u, hu⟩ | hh
    · exact .inl ⟨u, fun w => by rw [run_bind', hv w]; exact hu w⟩
    · exact .inr fun w => by rw [run_bind', hv w]; exact hh w
  · exact .inr fun w => by
      obtain ⟨h, w', e⟩ := hh w
      exact ⟨h, w', by rw [run_bind', e]⟩
theorem Calm.value {s : Sem Value} (h : Calm P s) : CalmV P (s >>= fun v => (Pure.pure (Next.value v) : Sem Next)) := CalmV.bind h fun _ => CalmV.pure _
theorem now_congr {ρ ρ' : Operand → Value} {o : Oper} (h : ∀ x ∈ o.op.operands, ρ x = ρ' x) : now ρ o = now ρ' o := by
  unfold now
  cases hop : o.op <;> simp only [hop] at h ⊢
  case nilCheck x => rw [h x (by simp [Op.operands])]
  case binOp op t x y t' => rw [h x (by simp [Op.operands]), h y (by simp [Op.operands])]
  case convert s d x => rw [h x (by simp [Op.operands])]
  case call c =>
    have : c.args.map ρ = c.args.map ρ' := Array.map_congr_left fun x hx => h x (by simp [Op.operands, Call.operands, hx])
    rw [this]
theorem Calm.fieldAt {s : TypeId} {f : Nat} (h : fieldOk P s f = true) (v : Value) : Calm P (Go.Instr.fieldAt s v f) := by
  unfold fieldOk at h
  split at h
  · rename_i fields hs
    split at h
    · rename_i g hg
      split at h
      · rename_i i hi
        unfold Go.Instr.fieldAt
        have hu : ∀ w, (Go.underlying s).run P w = .ok (.struct fields) w := fun w => run_und hs w
        have hz : ∀ w, (Go.sizeOf g.type).run P w = .ok i.size w := fun w => run_size hi w
        have hp : ∀ a, Calm P (Go.fieldPlace a g) := by
          intro a
          refine .inl ⟨a.add g.offset, fun w => ?_⟩
          unfold Go.fieldPlace
          rw [run_bind', hz w]
          have : ¬ i.size = 0 := by simpa using h
          simp [this]
        rcases Calm.sureAddr (P := P) v with ⟨a, ha⟩ | hh
        · rcases hp a with ⟨b, hb⟩ | hb
          · refine .inl ⟨.pointer (some b), fun w => ?_⟩
            rw [run_bind', hu w]
            simp only [hg]
            rw [run_bind', ha w]
            simp only []
            rw [run_bind', hb w]; rfl
          · refine .inr fun w => ?_
            rw [run_bind', hu w]
            simp only [hg]
            rw [run_bind', ha w]
            simp only []
            rw [run_bind']
            obtain ⟨h1, w1, e⟩ := hb w
            rw [e]; exact ⟨_, _, rfl⟩
        · refine .inr fun w => ?_
          rw [run_bind', hu w]
          simp only [hg]
          rw [run_bind']
          obtain ⟨h1, w1, e⟩ := hh w
          rw [e]; exact ⟨_, _, rfl⟩
      · cases h
    · cases h
  · cases h
theorem arr1 {vs : Array Value} (h : (vs.size == 1) = true) : vs = #[vs.getD 0 undef] := by
  obtain ⟨l⟩ := vs
  match l, h with
  | [x], _ => rfl
  | [], h => simp at h
  | _ :: _ :: _, h => simp at h
theorem arr2 {vs : Array Value} (h : (vs.size == 2) = true) : vs = #[vs.getD 0 undef, vs.getD 1 undef] := by
  obtain ⟨l⟩ := vs
  match l, h with
  | [x, y], _ => rfl
  | [], h => simp at h
  | [_], h => simp at h
  | _ :: _ :: _ :: _, h => simp at h
theorem isInt_ex {v : Value} (h : isInt v = true) : ∃ k n, v = .int k n := by cases v <;> simp [isInt] at h; exact ⟨_, _, rfl⟩
theorem isPlace_ex {v : Value} (h : isPlace v = true) : ∃ a, v = .pointer (some a) := by
  cases v <;> simp [isPlace] at h
  rename_i p; cases p <;> simp at h; exact ⟨_, rfl⟩
theorem calm_of {ρ : Operand → Value} {o : Oper} (hk : kind P o = true) (hn : now ρ o = true) : CalmV P (execOp ρ o) := by
  unfold kind at hk
  unfold now at hn
  unfold execOp
  dsimp only
  cases hop : o.op <;> simp only [hop] at hk hn ⊢ <;> first | exact absurd hk (by decide) | skip
  case move => exact CalmV.pure _
  case assign => exact CalmV.pure _
  case pick => exact CalmV.bind (Calm.asBool _) fun _ => by split <;> exact CalmV.pure _
  case extract => exact Calm.value (Calm.extract _ _)
  case unOp => exact Calm.value (Calm.unary _ _)
  case indexAddr => exact Calm.value (Calm.indexAt _ _ _)
  case index => exact Calm.value (Calm.index _ _ _)
  case field => exact Calm.value (Calm.field _ _ _)
  case slice => exact Calm.value (Calm.sliceAt _ _ _ _ _)
  case fieldAddr s x f => exact Calm.value (Calm.fieldAt hk _)
  case nilCheck x =>
    obtain ⟨a, ha⟩ := isPlace_ex hn
    rw [ha]; exact CalmV.pure _
  case binOp op t x y t' =>
    refine Calm.value ?_
    generalize ρ x = v at hn ⊢
    generalize ρ y = u at hn ⊢
    cases v <;> cases u <;> simp [bothInts] at hn
    · exact Calm.bind (Calm.eqGuardInt _ _ _ _ _ _ _ _) fun _ => Calm.binInt _ _ _ _ _ _
    · exact Calm.bind (Calm.eqGuardString _ _ _ _ _ _) fun _ => Calm.binString _ _ _ _
  case convert s d x =>
    obtain ⟨k, n, hx⟩ := isInt_ex hn
    rw [hx]
    unfold isIntT at hk
    split at hk
    · rename_i j hj; exact Calm.value (Calm.convertInt s d k j n hj)
    · cases hk
  case call c =>
    obtain ⟨callee, args, ats⟩ := c
    simp only [callKind] at hk
    split at hk <;> first | cases hk | skip
    all_goals simp only [callNow, Bool.and_eq_true] at hn
    all_goals simp only [resolve, invoke, builtin, pure_bind]
    · rw [arr1 hn.1]
      obtain ⟨_, hl⟩ := hn
      generalize (Array.map ρ args).getD 0 undef = v at hl ⊢
      cases v <;> simp [hasLen] at hl
      · exact Calm.value (Calm.len _ _ _)
      · exact Calm.value (Calm.lenSlice _ _ _ _ _)
    · rw [arr2 hn.1.1]
      obtain ⟨k, n, e1⟩ := isInt_ex hn.1.2
      obtain ⟨k', n', e2⟩ := isInt_ex hn.2
      rw [e1, e2]; exact Calm.value (Calm.maxInt _ _ _ _ _ _)
    · rw [arr2 hn.1.1]
      obtain ⟨k, n, e1⟩ := isInt_ex hn.1.2
      obtain ⟨k', n', e2⟩ := isInt_ex hn.2
      rw [e1, e2]; exact Calm.value (Calm.minInt _ _ _ _ _ _)

/-! ### A load: it leaves the world as it is -/
def Still {α : Type} (P : Program) (s : Sem α) : Prop := ∀ w v w', s.run P w = .ok v w' → w' = w
theorem Still.bind {α β : Type} {s : Sem α} {f : α → Sem β} (hs : Still P s) (hf : ∀ v, Still P (f v)) : Still P (s >>= f) := by
  intro w v w' h
  rw [run_bind'] at h
  split at h
  · rename_i u w1 e
    have := hs w u w1 e
    subst this
    exact hf u _ _ _ h
  · cases h
theorem Still.of_calm {α : Type} {s : Sem α} (h : Calm P s) : Still P s := by
  intro w v w' e
  rcases h with ⟨u, hu⟩ | hh
  · rw [hu w] at e; cases e; rfl
  · obtain ⟨x, w1, e1⟩ := hh w
    rw [e1] at e; cases e
theorem Still.pure {α : Type} (v : α) : Still P (Pure.pure v : Sem α) := Still.of_calm (Calm.pure v)
theorem Still.load (a : Addr) : Still P (Go.load a) := by
  intro w v w' h
  unfold Go.load at h
  simp only [Sem.run] at h
  split at h
  · cases h; rfl
  · split at h
    · cases h; rfl
    · cases h
theorem Still.loadCellsFrom (a : Addr) : ∀ (n i : Nat) (acc : Array Value), Still P (Go.loadCellsFrom a i n acc) := by
  intro n
  induction n with
  | zero => intro i acc; exact Still.pure _
  | succ n ih => intro i acc; exact Still.bind (Still.load _) fun v => ih _ _
theorem Still.loadAt (t : TypeId) (v : Value) : Still P (Go.Instr.loadAt t v) := by
  unfold Go.Instr.loadAt
  refine Still.bind (Still.of_calm (Calm.sureAddr _)) fun a => ?_
  unfold Go.loadVar
  refine Still.bind (Still.of_calm (Calm.isAgg _)) fun b => ?_
  split
  · refine Still.bind (Still.of_calm (Calm.sizeOf _)) fun n => Still.bind ?_ fun _ => Still.pure _
    exact Still.loadCellsFrom _ _ _ _
  · exact Still.load _
def isLoad (o : Oper) : Bool := match o.op with | .load .. => true | _ => false
theorem still_of {ρ : Operand → Value} {o : Oper} (h : isLoad o = true) : ∀ w n w', (execOp ρ o).run P w = .ok n w' → w' = w ∧ ∃ v, n = .value v := by
  intro w n w' e
  unfold isLoad at h
  split at h
  · rename_i t x hop
    unfold execOp at e
    dsimp only at e
    rw [hop] at e
    simp only [] at e
    rw [run_bind'] at e
    split at e
    · rename_i v w1 e1
      have := Still.loadAt t (ρ x) w v w1 e1
      subst this
      cases e
      exact ⟨rfl, v, rfl⟩
    · cases e
  · cases h
end
end Reg
end Go.Proofs.Ytfjadphgjjlhiaa
