import Derived.Orders
import Derived.Tactics
import Derived.WalkKit
import Derived.WalkSpells
import Derived.WalkLawsBesides
import Derived.Laws.IdiomStrings
import Derived.Lib.Hide
import Derived.RegionTactic
import Derived.Deep.RegionWith
import Derived.Deep.QuietTactic
import Derived.BigQuiet
import Derived.Deep.LoopGhost
import Derived.Deep.DeepFit
import Derived.Deep.DeepCutAuto
import Derived.Deep.RegionLaw
import Derived.Deep.RegionHeld3
import Derived.RowKit
import Derived.Test.YtgdgonmhgpflcaaRows

/- A region that draws its order may be walked in the text's order, where of any two operations that may be exchanged one only reckons. No condition. -/
namespace Go.Proofs.Ytgdgonmhgpflcaa
namespace Reg
set_option linter.unusedVariables false

/-! ### Computations that neither read nor turn the world -/
/-- It yields one value in every world, or none in any. -/
def Calm {α : Type} (P : Program) (s : Sem α) : Prop := (∃ v, ∀ w, s.run P w = .ok v w) ∨ (∀ w, ∃ h w', s.run P w = .halt h w')
theorem run_bind' {α β : Type} (P : Program) (s : Sem α) (f : α → Sem β) (w : World) : (s >>= f).run P w = (match s.run P w with | .ok v w' => (f v).run P w' | .halt h w' => .halt h w') := by
  rw [Sem.run_bind]; cases s.run P w <;> rfl
section
variable {P : Program}
theorem Calm.pure {α : Type} (v : α) : Calm P (Pure.pure v : Sem α) := .inl ⟨v, fun _ => rfl⟩
theorem Calm.bind {α β : Type} {s : Sem α} {f : α → Sem β} (hs : Calm P s) (hf : ∀ v, Calm P (f v)) : Calm P (s >>= f) := by
  rcases hs with ⟨v, hv⟩ | hh
  · rcases hf v with ⟨u, hu⟩ | hh
    · exact .inl ⟨u, fun w => by rw [run_bind', hv w]; exact hu w⟩
    · exact .inr fun w => by rw [run_bind', hv w]; exact hh w
  · exact .inr fun w => by
      obtain ⟨h, w', e⟩ := hh w
      exact ⟨h, w', by rw [run_bind', e]⟩
theorem Calm.halt {α : Type} (h : Halt) : Calm P (Sem.halt h : Sem α) := .inr fun w => ⟨h, w, rfl⟩
theorem Calm.program : Calm P program := .inl ⟨P, fun _ => rfl⟩
theorem Calm.stuck {α : Type} (s : String) : Calm P (Go.stuck s : Sem α) := .halt _
theorem Calm.unsupported {α : Type} (u : Unsupported) : Calm P (Go.unsupported u : Sem α) := .halt _
theorem Calm.goPanic {α : Type} (v : Value) : Calm P (Go.goPanic v : Sem α) := .halt _
theorem panic_halts {α : Type} (v : Value) (w : World) : ∃ h w', (Go.goPanic v : Sem α).run P w = .halt h w' := ⟨_, _, rfl⟩
theorem Calm.bounds {α : Type} (x y : Int) (s : Bool) (c : BoundsCode) : Calm P (Go.runtimePanic (.bounds x y s c) : Sem α) := .inr fun w => ⟨_, _, rfl⟩
theorem Calm.errorPanic {α : Type} (m : String) : Calm P (Go.runtimePanic (.error m) : Sem α) := .inr fun w => ⟨_, _, rfl⟩
theorem Calm.nilPanic {α : Type} : Calm P (Go.runtimePanic .nilDeref : Sem α) := .inr fun w => ⟨_, _, rfl⟩
theorem bounds_halts {α : Type} (k : IntKind) (x y : Int) (c : BoundsCode) (w : World) : ∃ h w', (Go.boundsPanic k x y c : Sem α).run P w = .halt h w' := by
  unfold Go.boundsPanic
  dsimp only
  split
  · rw [run_bind']
    split
    · exact ⟨_, _, rfl⟩
    · exact ⟨_, _, rfl⟩
  · exact ⟨_, _, rfl⟩
theorem Calm.boundsPanic {α : Type} (k : IntKind) (x y : Int) (c : BoundsCode) : Calm P (Go.boundsPanic k x y c : Sem α) := .inr (bounds_halts k x y c)
theorem Calm.typeInfo (t : TypeId) : Calm P (Go.typeInfo t) := by
  unfold Go.typeInfo
  refine Calm.bind Calm.program fun p => ?_
  split <;> first | exact Calm.pure _ | exact Calm.stuck _
theorem Calm.underlying (t : TypeId) : Calm P (Go.underlying t) := by
  unfold Go.underlying
  refine Calm.bind Calm.program fun p => ?_
  split <;> first | exact Calm.pure _ | exact Calm.stuck _
theorem Calm.sizeOf (t : TypeId) : Calm P (Go.sizeOf t) := Calm.bind (Calm.typeInfo t) fun _ => Calm.pure _
theorem Calm.isAgg (t : TypeId) : Calm P (Go.isAgg t) := Calm.bind (Calm.underlying t) fun _ => by split <;> exact Calm.pure _
theorem Calm.asIntOf (v : Value) : Calm P (Go.asIntOf v) := by
  unfold Go.asIntOf; split <;> first | exact Calm.pure _ | exact Calm.halt _
theorem Calm.asBool (v : Value) : Calm P (Go.asBool v) := by
  unfold Go.asBool; split <;> first | exact Calm.pure _ | exact Calm.halt _
theorem Calm.asAgg (v : Value) : Calm P (Go.asAgg v) := by
  unfold Go.asAgg; split <;> first | exact Calm.pure _ | exact Calm.halt _
theorem Calm.asAddr (v : Value) : Calm P (Go.asAddr v) := by
  unfold Go.asAddr; split <;> first | exact Calm.pure _ | exact Calm.halt _ | exact Calm.nilPanic
theorem Calm.sureAddr (v : Value) : Calm P (Go.Instr.sureAddr v) := by
  unfold Go.Instr.sureAddr; split <;> first | exact Calm.pure _ | exact Calm.halt _
theorem Calm.ite {α : Type} {c : Prop} [Decidable c] {s t : Sem α} (hs : Calm P s) (ht : Calm P t) : Calm P (if c then s else t) := by split <;> assumption
theorem Calm.part (t : TypeId) (cs : Array Value) (off : Nat) : Calm P (Go.part t cs off) := by
  unfold Go.part
  repeat' (first | exact Calm.pure _ | exact Calm.stuck _ | exact Calm.unsupported _ | exact Calm.boundsPanic _ _ _ _ | exact Calm.nilPanic | exact Calm.errorPanic _ | exact Calm.underlying _ | exact Calm.sizeOf _ | exact Calm.isAgg _ | exact Calm.asIntOf _ | exact Calm.asBool _ | exact Calm.asAgg _ | exact Calm.asAddr _ | exact Calm.sureAddr _ | exact Calm.program | refine Calm.bind ?_ (fun _ => ?_) | split | dsimp only)
theorem Calm.extract (t : Value) (i : Nat) : Calm P (Go.Instr.extract t i) := by
  unfold Go.Instr.extract
  repeat' (first | exact Calm.pure _ | exact Calm.stuck _ | exact Calm.unsupported _ | exact Calm.boundsPanic _ _ _ _ | exact Calm.nilPanic | exact Calm.errorPanic _ | exact Calm.underlying _ | exact Calm.sizeOf _ | exact Calm.isAgg _ | exact Calm.asIntOf _ | exact Calm.asBool _ | exact Calm.asAgg _ | exact Calm.asAddr _ | exact Calm.sureAddr _ | exact Calm.program | refine Calm.bind ?_ (fun _ => ?_) | split | dsimp only)
theorem Calm.indexAt (t : TypeId) (x ix : Value) : Calm P (Go.Instr.indexAt t x ix) := by
  unfold Go.Instr.indexAt
  repeat' (first | exact Calm.pure _ | exact Calm.stuck _ | exact Calm.unsupported _ | exact Calm.boundsPanic _ _ _ _ | exact Calm.nilPanic | exact Calm.errorPanic _ | exact Calm.underlying _ | exact Calm.sizeOf _ | exact Calm.isAgg _ | exact Calm.asIntOf _ | exact Calm.asBool _ | exact Calm.asAgg _ | exact Calm.asAddr _ | exact Calm.sureAddr _ | exact Calm.program | refine Calm.bind ?_ (fun _ => ?_) | split | dsimp only)
theorem Calm.index (t : TypeId) (x ix : Value) : Calm P (Go.Instr.index t x ix) := by
  unfold Go.Instr.index
  repeat' (first | exact Calm.pure _ | exact Calm.stuck _ | exact Calm.unsupported _ | exact Calm.boundsPanic _ _ _ _ | exact Calm.nilPanic | exact Calm.errorPanic _ | exact Calm.underlying _ | exact Calm.sizeOf _ | exact Calm.isAgg _ | exact Calm.asIntOf _ | exact Calm.asBool _ | exact Calm.asAgg _ | exact Calm.asAddr _ | exact Calm.sureAddr _ | exact Calm.part _ _ _ | exact Calm.program | refine Calm.bind ?_ (fun _ => ?_) | split | dsimp only)
theorem Calm.field (t : TypeId) (x : Value) (f : Nat) : Calm P (Go.Instr.field t x f) := by
  unfold Go.Instr.field
  repeat' (first | exact Calm.pure _ | exact Calm.stuck _ | exact Calm.unsupported _ | exact Calm.boundsPanic _ _ _ _ | exact Calm.nilPanic | exact Calm.errorPanic _ | exact Calm.underlying _ | exact Calm.sizeOf _ | exact Calm.isAgg _ | exact Calm.asIntOf _ | exact Calm.asBool _ | exact Calm.asAgg _ | exact Calm.asAddr _ | exact Calm.sureAddr _ | exact Calm.part _ _ _ | exact Calm.program | refine Calm.bind ?_ (fun _ => ?_) | split | dsimp only)
theorem Calm.sliceBound (x : Value) (y : Nat) (c : BoundsCode) : Calm P (Go.Instr.sliceBound x y c) := by
  unfold Go.Instr.sliceBound
  repeat' (first | exact Calm.pure _ | exact Calm.stuck _ | exact Calm.unsupported _ | exact Calm.boundsPanic _ _ _ _ | exact Calm.nilPanic | exact Calm.errorPanic _ | exact Calm.underlying _ | exact Calm.sizeOf _ | exact Calm.isAgg _ | exact Calm.asIntOf _ | exact Calm.asBool _ | exact Calm.asAgg _ | exact Calm.asAddr _ | exact Calm.sureAddr _ | exact Calm.program | refine Calm.bind ?_ (fun _ => ?_) | split | dsimp only)
theorem Calm.sliceBounds (b : Bool) (len cap : Nat) (lo hi mx : Option Value) : Calm P (Go.Instr.sliceBounds b len cap lo hi mx) := by
  unfold Go.Instr.sliceBounds
  repeat' (first | exact Calm.pure _ | exact Calm.stuck _ | exact Calm.unsupported _ | exact Calm.boundsPanic _ _ _ _ | exact Calm.nilPanic | exact Calm.errorPanic _ | exact Calm.underlying _ | exact Calm.sizeOf _ | exact Calm.isAgg _ | exact Calm.asIntOf _ | exact Calm.asBool _ | exact Calm.asAgg _ | exact Calm.asAddr _ | exact Calm.sureAddr _ | exact Calm.sliceBound _ _ _ | exact Calm.program | refine Calm.bind ?_ (fun _ => ?_) | split | dsimp only)
theorem Calm.slice (t : TypeId) (x : Value) (lo hi mx : Option Value) : Calm P (Go.Instr.slice t x lo hi mx) := by
  unfold Go.Instr.slice
  repeat' (first | exact Calm.pure _ | exact Calm.stuck _ | exact Calm.unsupported _ | exact Calm.boundsPanic _ _ _ _ | exact Calm.nilPanic | exact Calm.errorPanic _ | exact Calm.underlying _ | exact Calm.sizeOf _ | exact Calm.isAgg _ | exact Calm.asIntOf _ | exact Calm.asBool _ | exact Calm.asAgg _ | exact Calm.asAddr _ | exact Calm.sureAddr _ | exact Calm.sliceBounds _ _ _ _ _ _ | exact Calm.program | refine Calm.bind ?_ (fun _ => ?_) | split | dsimp only)
theorem Calm.sliceAt (t : TypeId) (x : Value) (lo hi mx : Option Value) : Calm P (Go.Instr.sliceAt t x lo hi mx) := by
  unfold Go.Instr.sliceAt
  repeat' (first | exact Calm.pure _ | exact Calm.stuck _ | exact Calm.unsupported _ | exact Calm.boundsPanic _ _ _ _ | exact Calm.nilPanic | exact Calm.errorPanic _ | exact Calm.underlying _ | exact Calm.sizeOf _ | exact Calm.isAgg _ | exact Calm.asIntOf _ | exact Calm.asBool _ | exact Calm.asAgg _ | exact Calm.asAddr _ | exact Calm.sureAddr _ | exact Calm.sliceBounds _ _ _ _ _ _ | exact Calm.slice _ _ _ _ _ | exact Calm.program | refine Calm.bind ?_ (fun _ => ?_) | split | dsimp only)
theorem Calm.intArith (op : BinOp) (k : IntKind) (a b : Int) : Calm P (Op.intArith op k a b) := by
  unfold Op.intArith; split <;> first | exact Calm.pure _ | exact Calm.stuck _
theorem Calm.intBits (op : BinOp) (k : IntKind) (a b : Int) : Calm P (Op.intBits op k a b) := by
  unfold Op.intBits; dsimp only; split <;> first | exact Calm.pure _ | exact Calm.stuck _
theorem Calm.intCmp (op : BinOp) (a b : Int) : Calm P (Op.intCmp op a b) := by
  unfold Op.intCmp; split <;> first | exact Calm.pure _ | exact Calm.stuck _
theorem Calm.intDiv (op : BinOp) (k : IntKind) (a b : Int) : Calm P (Op.intDiv op k a b) := by
  unfold Op.intDiv
  refine Calm.ite (Calm.errorPanic _) ?_
  split <;> first | exact Calm.pure _ | exact Calm.stuck _
theorem Calm.shift (op : BinOp) (k : IntKind) (a : Int) (k' : IntKind) (b : Int) : Calm P (Op.shift op k a k' b) := by
  unfold Op.shift
  refine Calm.ite (Calm.errorPanic _) ?_
  dsimp only
  split <;> first | exact Calm.pure _ | exact Calm.stuck _
theorem Calm.stringOp (op : BinOp) (a b : ByteArray) : Calm P (Op.stringOp op a b) := by
  unfold Op.stringOp; dsimp only
  split <;> first | exact Calm.pure _ | exact Calm.stuck _ | exact Calm.ite (Calm.unsupported _) (Calm.pure _)
theorem Calm.unary (op : UnOp) (x : Value) : Calm P (Op.unary op x) := by
  unfold Op.unary; split <;> first | exact Calm.pure _ | exact Calm.stuck _ | exact Calm.unsupported _ | exact Calm.intArith _ _ _ _ | exact Calm.intBits _ _ _ _
theorem Calm.binInt (op : BinOp) (t : TypeId) (k k' : IntKind) (a b : Int) : Calm P (Go.binOp op t (.int k a) (.int k' b)) := by
  cases op <;> simp only [Go.binOp] <;> first | exact Calm.shift _ _ _ _ _ | exact Calm.ite (Calm.stuck _) (Calm.intArith _ _ _ _) | exact Calm.ite (Calm.stuck _) (Calm.intDiv _ _ _ _) | exact Calm.ite (Calm.stuck _) (Calm.intBits _ _ _ _) | exact Calm.ite (Calm.stuck _) (Calm.intCmp _ _ _)
theorem Calm.binString (op : BinOp) (t : TypeId) (a b : ByteArray) : Calm P (Go.binOp op t (.string a) (.string b)) := by
  cases op <;> simp only [Go.binOp] <;> exact Calm.stringOp _ _ _
theorem Calm.eqGuardInt (op : BinOp) (t : TypeId) (x y : Operand) (k k' : IntKind) (a b : Int) : Calm P (Go.eqGuard op t x y (.int k a) (.int k' b)) := by
  unfold Go.eqGuard; repeat' (first | exact Calm.pure _ | split | dsimp only)
theorem Calm.eqGuardString (op : BinOp) (t : TypeId) (x y : Operand) (a b : ByteArray) : Calm P (Go.eqGuard op t x y (.string a) (.string b)) := by
  unfold Go.eqGuard; repeat' (first | exact Calm.pure _ | split | dsimp only)
theorem Calm.len (ts : Array TypeId) (t : TypeId) (s : ByteArray) : Calm P (Builtin.len_ ts t #[.string s]) := by
  unfold Builtin.len_
  repeat' (first | exact Calm.pure _ | exact Calm.stuck _ | exact Calm.underlying _ | refine Calm.bind ?_ (fun _ => ?_) | split | dsimp only)
  all_goals simp_all
theorem Calm.lenSlice (ts : Array TypeId) (t : TypeId) (a : Option Addr) (n c : Nat) : Calm P (Builtin.len_ ts t #[.slice a n c]) := by
  unfold Builtin.len_
  repeat' (first | exact Calm.pure _ | exact Calm.stuck _ | exact Calm.underlying _ | refine Calm.bind ?_ (fun _ => ?_) | split | dsimp only)
  all_goals simp_all
theorem Calm.maxInt (ts : Array TypeId) (t : TypeId) (k k' : IntKind) (a b : Int) : Calm P (Builtin.max_ ts t #[.int k a, .int k' b]) := .inl ⟨.int k (if b > a then b else a), fun _ => rfl⟩
theorem Calm.minInt (ts : Array TypeId) (t : TypeId) (k k' : IntKind) (a b : Int) : Calm P (Builtin.min_ ts t #[.int k a, .int k' b]) := .inl ⟨_, fun _ => rfl⟩
theorem run_und {t : TypeId} {d : TypeDesc} (h : P.underlying t = some d) (w : World) : (Go.underlying t).run P w = .ok d w := by
  unfold Go.underlying
  rw [run_bind', show (Go.program).run P w = .ok P w from rfl]
  simp only [h]; rfl
theorem run_size {t : TypeId} {i : TypeInfo} (h : P.info? t = some i) (w : World) : (Go.sizeOf t).run P w = .ok i.size w := by
  unfold Go.sizeOf Go.typeInfo
  rw [run_bind', run_bind', show (Go.program).run P w = .ok P w from rfl]
  simp only [h]; rfl
theorem Calm.convertInt (src dst : TypeId) (k j : IntKind) (n : Int) (hd : P.underlying dst = some (.int j)) : Calm P (Go.convert src dst (.int k n)) := by
  unfold Go.convert
  refine Calm.bind (Calm.underlying _) fun d => ?_
  refine .inl ⟨.int j (j.wrap n), fun w => ?_⟩
  rw [run_bind', run_und hd]
  cases d <;> rfl

/-! ### Which operations only reckon, at a frame -/
def bothInts : Value → Value → Bool
  | .int .., .int .. => true
  | .string _, .string _ => true
  | _, _ => false
def isInt : Value → Bool
  | .int .. => true
  | _ => false
def isPlace : Value → Bool
  | .pointer (some _) => true
  | _ => false
def hasLen : Value → Bool
  | .string _ => true
  | .slice .. => true
  | _ => false
def isIntT (P : Program) (t : TypeId) : Bool := match P.underlying t with | some (.int _) => true | _ => false
def fieldOk (P : Program) (s : TypeId) (f : Nat) : Bool :=
  match P.underlying s with
  | some (.struct fields) => (match fields[f]? with | some g => (match P.info? g.type with | some i => i.size != 0 | none => false) | none => false)
  | _ => false
def callKind (c : Call) : Bool :=
  match c.callee with
  | .builtin .len => true
  | .builtin .max => true
  | .builtin .min => true
  | _ => false
def callNow (c : Call) (vs : Array Value) : Bool :=
  match c.callee with
  | .builtin .len => vs.size == 1 && hasLen (vs.getD 0 undef)
  | _ => vs.size == 2 && isInt (vs.getD 0 undef) && isInt (vs.getD 1 undef)
/-- May the operation, by its form, be one that only reckons? -/
def kind (P : Program) (o : Oper) : Bool :=
  match o.op with
  | .move _ | .assign _ | .pick .. | .extract .. | .unOp .. | .indexAddr .. | .index .. | .field .. | .slice .. | .nilCheck _ | .binOp .. => true
  | .fieldAddr s _ f => fieldOk P s f
  | .convert _ dst _ => isIntT P dst
  | .call c => callKind c
  | _ => false
/-- Does it, with what the slots hold? -/
def now (ρ : Operand → Value) (o : Oper) : Bool :=
  match o.op with
  | .nilCheck x => isPlace (ρ x)
  | .binOp _ _ x y _ => bothInts (ρ x) (ρ y)
  | .convert _ _ x => isInt (ρ x)
  | .call c => callNow c (c.args.map ρ)
  | _ => true
/-- It yields one value for the operation's slot, or none in any world. -/
def CalmV (P : Program) (s : Sem Next) : Prop := (∃ v, ∀ w, s.run P w = .ok (.value v) w) ∨ (∀ w, ∃ h w', s.run P w = .halt h w')
theorem CalmV.pure (v : Value) : CalmV P (Pure.pure (Next.value v)) := .inl ⟨v, fun _ => rfl⟩
theorem CalmV.bind {α : Type} {s : Sem α} {f : α → Sem Next} (hs : Calm P s) (hf : ∀ v, CalmV P (f v)) : CalmV P (s >>= f) := by
  rcases hs with ⟨v, hv⟩ | hh
  · rcases hf v with ⟨u, hu⟩ | hh
    · exact .inl ⟨u, fun w => by rw [run_bind', hv w]; exact hu w⟩
    · exact .inr fun w => by rw [run_bind', hv w]; exact hh w
  · exact .inr fun w => by
      obtain ⟨h, w', e⟩ := hh w
      exact ⟨h, w', by rw [run_bind', e]⟩
theorem Calm.value {s : Sem Value} (h : Calm P s) : CalmV P (s >>= fun v => (Pure.pure (Next.value v) : Sem Next)) := CalmV.bind h fun _ => CalmV.pure _
theorem now_congr {ρ ρ' : Operand → Value} {o : Oper} (h : ∀ x ∈ o.op.operands, ρ x = ρ' x) : now ρ o = now ρ' o := by
  unfold now
  cases hop : o.op <;> simp only [hop] at h ⊢
  case nilCheck x => rw [h x (by simp [Op.operands])]
  case binOp op t x y t' => rw [h x (by simp [Op.operands]), h y (by simp [Op.operands])]
  case convert s d x => rw [h x (by simp [Op.operands])]
  case call c =>
    have : c.args.map ρ = c.args.map ρ' := Array.map_congr_left fun x hx => h x (by simp [Op.operands, Call.operands, hx])
    rw [this]
theorem Calm.fieldAt {s : TypeId} {f : Nat} (h : fieldOk P s f = true) (v : Value) : Calm P (Go.Instr.fieldAt s v f) := by
  unfold fieldOk at h
  split at h
  · rename_i fields hs
    split at h
    · rename_i g hg
      split at h
      · rename_i i hi
        unfold Go.Instr.fieldAt
        have hu : ∀ w, (Go.underlying s).run P w = .ok (.struct fields) w := fun w => run_und hs w
        have hz : ∀ w, (Go.sizeOf g.type).run P w = .ok i.size w := fun w => run_size hi w
        have hp : ∀ a, Calm P (Go.fieldPlace a g) := by
          intro a
          refine .inl ⟨a.add g.offset, fun w => ?_⟩
          unfold Go.fieldPlace
          rw [run_bind', hz w]
          have : ¬ i.size = 0 := by simpa using h
          simp [this]
        rcases Calm.sureAddr (P := P) v with ⟨a, ha⟩ | hh
        · rcases hp a with ⟨b, hb⟩ | hb
          · refine .inl ⟨.pointer (some b), fun w => ?_⟩
            rw [run_bind', hu w]
            simp only [hg]
            rw [run_bind', ha w]
            simp only []
            rw [run_bind', hb w]; rfl
          · refine .inr fun w => ?_
            rw [run_bind', hu w]
            simp only [hg]
            rw [run_bind', ha w]
            simp only []
            rw [run_bind']
            obtain ⟨h1, w1, e⟩ := hb w
            rw [e]; exact ⟨_, _, rfl⟩
        · refine .inr fun w => ?_
          rw [run_bind', hu w]
          simp only [hg]
          rw [run_bind']
          obtain ⟨h1, w1, e⟩ := hh w
          rw [e]; exact ⟨_, _, rfl⟩
      · cases h
    · cases h
  · cases h
theorem arr1 {vs : Array Value} (h : (vs.size == 1) = true) : vs = #[vs.getD 0 undef] := by
  obtain ⟨l⟩ := vs
  match l, h with
  | [x], _ => rfl
  | [], h => simp at h
  | _ :: _ :: _, h => simp at h
theorem arr2 {vs : Array Value} (h : (vs.size == 2) = true) : vs = #[vs.getD 0 undef, vs.getD 1 undef] := by
  obtain ⟨l⟩ := vs
  match l, h with
  | [x, y], _ => rfl
  | [], h => simp at h
  | [_], h => simp at h
  | _ :: _ :: _ :: _, h => simp at h
theorem isInt_ex {v : Value} (h : isInt v = true) : ∃ k n, v = .int k n := by cases v <;> simp [isInt] at h; exact ⟨_, _, rfl⟩
theorem isPlace_ex {v : Value} (h : isPlace v = true) : ∃ a, v = .pointer (some a) := by
  cases v <;> simp [isPlace] at h
  rename_i p; cases p <;> simp at h; exact ⟨_, rfl⟩
theorem calm_of {ρ : Operand → Value} {o : Oper} (hk : kind P o = true) (hn : now ρ o = true) : CalmV P (execOp ρ o) := by
  unfold kind at hk
  unfold now at hn
  unfold execOp
  dsimp only
  cases hop : o.op <;> simp only [hop] at hk hn ⊢ <;> first | exact absurd hk (by decide) | skip
  case move => exact CalmV.pure _
  case assign => exact CalmV.pure _
  case pick => exact CalmV.bind (Calm.asBool _) fun _ => by split <;> exact CalmV.pure _
  case extract => exact Calm.value (Calm.extract _ _)
  case unOp => exact Calm.value (Calm.unary _ _)
  case indexAddr => exact Calm.value (Calm.indexAt _ _ _)
  case index => exact Calm.value (Calm.index _ _ _)
  case field => exact Calm.value (Calm.field _ _ _)
  case slice => exact Calm.value (Calm.sliceAt _ _ _ _ _)
  case fieldAddr s x f => exact Calm.value (Calm.fieldAt hk _)
  case nilCheck x =>
    obtain ⟨a, ha⟩ := isPlace_ex hn
    rw [ha]; exact CalmV.pure _
  case binOp op t x y t' =>
    refine Calm.value ?_
    generalize ρ x = v at hn ⊢
    generalize ρ y = u at hn ⊢
    cases v <;> cases u <;> simp [bothInts] at hn
    · exact Calm.bind (Calm.eqGuardInt _ _ _ _ _ _ _ _) fun _ => Calm.binInt _ _ _ _ _ _
    · exact Calm.bind (Calm.eqGuardString _ _ _ _ _ _) fun _ => Calm.binString _ _ _ _
  case convert s d x =>
    obtain ⟨k, n, hx⟩ := isInt_ex hn
    rw [hx]
    unfold isIntT at hk
    split at hk
    · rename_i j hj; exact Calm.value (Calm.convertInt s d k j n hj)
    · cases hk
  case call c =>
    obtain ⟨callee, args, ats⟩ := c
    simp only [callKind] at hk
    split at hk <;> first | cases hk | skip
    all_goals simp only [callNow, Bool.and_eq_true] at hn
    all_goals simp only [resolve, invoke, builtin, pure_bind]
    · rw [arr1 hn.1]
      obtain ⟨_, hl⟩ := hn
      generalize (Array.map ρ args).getD 0 undef = v at hl ⊢
      cases v <;> simp [hasLen] at hl
      · exact Calm.value (Calm.len _ _ _)
      · exact Calm.value (Calm.lenSlice _ _ _ _ _)
    · rw [arr2 hn.1.1]
      obtain ⟨k, n, e1⟩ := isInt_ex hn.1.2
      obtain ⟨k', n', e2⟩ := isInt_ex hn.2
      rw [e1, e2]; exact Calm.value (Calm.maxInt _ _ _ _ _ _)
    · rw [arr2 hn.1.1]
      obtain ⟨k, n, e1⟩ := isInt_ex hn.1.2
      obtain ⟨k', n', e2⟩ := isInt_ex hn.2
      rw [e1, e2]; exact Calm.value (Calm.minInt _ _ _ _ _ _)

/-! ### A load: it leaves the world as it is -/
def Still {α : Type} (P : Program) (s : Sem α) : Prop := ∀ w v w', s.run P w = .ok v w' → w' = w
theorem Still.bind {α β : Type} {s : Sem α} {f : α → Sem β} (hs : Still P s) (hf : ∀ v, Still P (f v)) : Still P (s >>= f) := by
  intro w v w' h
  rw [run_bind'] at h
  split at h
  · rename_i u w1 e
    have := hs w u w1 e
    subst this
    exact hf u _ _ _ h
  · cases h
theorem Still.of_calm {α : Type} {s : Sem α} (h : Calm P s) : Still P s := by
  intro w v w' e
  rcases h with ⟨u, hu⟩ | hh
  · rw [hu w] at e; cases e; rfl
  · obtain ⟨x, w1, e1⟩ := hh w
    rw [e1] at e; cases e
theorem Still.pure {α : Type} (v : α) : Still P (Pure.pure v : Sem α) := Still.of_calm (Calm.pure v)
theorem Still.load (a : Addr) : Still P (Go.load a) := by
  intro w v w' h
  unfold Go.load at h
  simp only [Sem.run] at h
  split at h
  · cases h; rfl
  · split at h
    · cases h; rfl
    · cases h
theorem Still.loadCellsFrom (a : Addr) : ∀ (n i : Nat) (acc : Array Value), Still P (Go.loadCellsFrom a i n acc) := by
  intro n
  induction n with
  | zero => intro i acc; exact Still.pure _
  | succ n ih => intro i acc; exact Still.bind (Still.load _) fun v => ih _ _
theorem Still.loadAt (t : TypeId) (v : Value) : Still P (Go.Instr.loadAt t v) := by
  unfold Go.Instr.loadAt
  refine Still.bind (Still.of_calm (Calm.sureAddr _)) fun a => ?_
  unfold Go.loadVar
  refine Still.bind (Still.of_calm (Calm.isAgg _)) fun b => ?_
  split
  · refine Still.bind (Still.of_calm (Calm.sizeOf _)) fun n => Still.bind ?_ fun _ => Still.pure _
    exact Still.loadCellsFrom _ _ _ _
  · exact Still.load _
def isLoad (o : Oper) : Bool := match o.op with | .load .. => true | _ => false
theorem still_of {ρ : Operand → Value} {o : Oper} (h : isLoad o = true) : ∀ w n w', (execOp ρ o).run P w = .ok n w' → w' = w ∧ ∃ v, n = .value v := by
  intro w n w' e
  unfold isLoad at h
  split at h
  · rename_i t x hop
    unfold execOp at e
    dsimp only at e
    rw [hop] at e
    simp only [] at e
    rw [run_bind'] at e
    split at e
    · rename_i v w1 e1
      have := Still.loadAt t (ρ x) w v w1 e1
      subst this
      cases e
      exact ⟨rfl, v, rfl⟩
    · cases e
  · cases h
end
end Reg
end Go.Proofs.Ytgdgonmhgpflcaa


/- The same: the theorem. No condition. -/
namespace Go.Proofs.Ytgdgonmhgpflcaa
namespace Reg
set_option linter.unusedVariables false
section
variable {P : Program} {ops : Array Oper} {Q : Exit → Act → World → Prop} {md : Region.Mode} {n : Nat}

def calmAll (P : Program) (ops : Array Oper) (n : Nat) (a : Act) : Bool :=
  (ops.toList.drop n).all fun o => !kind P o || now a.eval o || !Region.wanted o (yielded ops a.tmps)
/-- What the walk in the text's order comes to. -/
def RegQ (P : Program) (ops : Array Oper) (n : Nat) (Q : Exit → Act → World → Prop) : Exit → Act → World → Prop
  | .normal, a, w => calmAll P ops n a = true ∧ Q .normal a w
  | _, _, _ => False
theorem no_out : ¬ LetsOut (RegQ P ops n Q) := fun ⟨_, _, h⟩ => h
/-- What an operation does, it does: some frame and world behind it. -/
theorem wpOp_some {i : Nat} {K : Act → World → Prop} {a : Act} {w : World} (h : wpOp P ops (RegQ P ops n Q) i K a w) :
    ∃ a' w', K a' w' ∧ ∀ t, (∀ o, ops[i]? = some o → o.dst ≠ some t) → a'.tmps.getD t undef = a.tmps.getD t undef := by
  have put : ∀ (a : Act) (d : Option Tmp) (v : Value) (t : Nat), d ≠ some t → (a.put d v).tmps.getD t undef = a.tmps.getD t undef := by
    intro a d v t h
    cases d with
    | none => rfl
    | some d =>
      have hne : d ≠ t := fun e => h (by rw [e])
      simp only [Act.put, Array.getD_eq_getD_getElem?, Array.getElem?_setIfInBounds_ne hne]
  unfold wpOp at h
  cases ho : ops[i]? with
  | none => rw [ho] at h; exact ⟨a, w, h, fun _ _ => rfl⟩
  | some o =>
    rw [ho] at h
    simp only at h
    have key : ∀ v t, (∀ o', some o = some o' → o'.dst ≠ some t) → (a.put o.dst v).tmps.getD t undef = a.tmps.getD t undef := fun v t ht => put a o.dst v t (ht o rfl)
    split at h
    · rcases h with h | ⟨_, h⟩
      · unfold Oper.wp at h
        generalize (execOp a.eval o).run P w = r at h
        cases r with
        | ok n w' =>
          cases n <;> simp only [Oper.upon] at h
          case value v => exact ⟨_, _, h, key v⟩
          case skip => exact ⟨_, _, h, key _⟩
          case defer d => exact ⟨_, _, h, fun t ht => put _ _ _ _ (ht o rfl)⟩
          case enter f args =>
            obtain ⟨e, w'', fr, hR, _⟩ := h []
            cases e with
            | returned v => exact ⟨_, _, hR, key v⟩
            | panicked c => exact hR.elim
            | outgrown => exact (no_out hR).elim
          case row row args =>
            obtain ⟨v, w'', hR, _⟩ := h default []
            exact ⟨_, _, hR, key v⟩
        | halt x w' => cases x <;> simp only [Oper.upon] at h; exact h.elim
      · exact (no_out h).elim
    · exact ⟨_, _, h, key _⟩
theorem wpOp_up {i : Nat} {K K' : Act → World → Prop} (hK : ∀ a w, K a w → K' a w) {a : Act} {w : World} (h : wpOp P ops (RegQ P ops n Q) i K a w) : wpOp P ops Q i K' a w := by
  unfold wpOp at h ⊢
  cases ho : ops[i]? with
  | none => rw [ho] at h; exact hK _ _ h
  | some o =>
    rw [ho] at h
    simp only at h ⊢
    split at h
    · rename_i hw
      rw [if_pos hw]
      rcases h with h | ⟨_, h⟩
      · refine .inl ?_
        unfold Oper.wp at h ⊢
        generalize (execOp a.eval o).run P w = r at h
        cases r with
        | ok n w' =>
          cases n <;> simp only [Oper.upon] at h ⊢
          case value v => exact hK _ _ h
          case skip => exact hK _ _ h
          case defer d => exact hK _ _ h
          case enter f args =>
            refine Calls.mono h fun e w'' hR => ?_
            cases e with
            | returned v => exact hK _ _ hR
            | panicked c => exact hR.elim
            | outgrown => exact (no_out hR).elim
          case row row args => exact Rows.mono h fun v w'' hR => hK _ _ hR
        | halt x w' => cases x <;> simp only [Oper.upon] at h; exact h.elim
      · exact (no_out h).elim
    · rename_i hw
      rw [if_neg hw]; exact hK _ _ h
/-- What an operation that reckons yields, whatever the world. -/
theorem yields {i : Nat} {o : Oper} {K : Act → World → Prop} {a : Act} {w : World} (hi : ops[i]? = some o) (hc : Region.wanted o (yielded ops a.tmps) = true → CalmV P (execOp a.eval o))
    (h : wpOp P ops (RegQ P ops n Q) i K a w) : ∃ v, Yields P ops o v a ∧ K (a.put o.dst v) w := by
  unfold wpOp at h
  rw [hi] at h
  simp only at h
  split at h
  · rename_i hw
    rcases h with h | ⟨_, h⟩
    · rcases hc hw with ⟨v, hv⟩ | hh
      · unfold Oper.wp at h
        rw [hv w] at h
        exact ⟨v, .inl ⟨hw, hv⟩, h⟩
      · obtain ⟨x, w', e⟩ := hh w
        unfold Oper.wp at h
        rw [e] at h
        cases x <;> simp only [Oper.upon] at h
        exact h.elim
    · exact (no_out h).elim
  · rename_i hw
    exact ⟨undef, .inr ⟨by simpa using hw, rfl⟩, h⟩
theorem noSel (h : Region.noSelect ops = true) {i : Nat} {o : Oper} (hi : ops[i]? = some o) : ∀ cs b, o.op ≠ .select cs b := fun cs b => Region.noSelect_spec h i o cs b hi
theorem no_panic {d : Option Tmp} {v : Value} : ∀ c a w, RegQ P ops n Q (.panic c) (Act.put a d v) w → RegQ P ops n Q (.panic c) a w := fun _ _ _ h => h.elim
theorem yielded_getD (ops : Array Oper) (tmps : Array Value) (g : Nat) : yielded ops tmps g = (match (ops[g]?).bind (·.dst) with | some d => (match tmps.getD d undef with | .bool b => some b | _ => none) | none => none) := by
  unfold yielded
  cases (ops[g]?).bind (·.dst) with
  | none => rfl
  | some d =>
    simp only [Option.bind_some, Array.getD_eq_getD_getElem?]
    cases tmps[d]? with
    | none => rfl
    | some v => cases v <;> rfl
/-- A guard's slot that holds the same gives the same word. -/
theorem wanted_same {o : Oper} {a a' : Act} (h : ∀ t ∈ o.looksAt ops, a'.tmps.getD t undef = a.tmps.getD t undef) : Region.wanted o (yielded ops a'.tmps) = Region.wanted o (yielded ops a.tmps) := by
  unfold Region.wanted
  cases hg : o.guard with
  | none => rfl
  | some q =>
    obtain ⟨g, want⟩ := q
    simp only
    rw [yielded_getD, yielded_getD]
    cases hd : (ops[g]?).bind (·.dst) with
    | none => rfl
    | some d =>
      simp only
      rw [h d (List.mem_append_right _ (by simp [hg, hd]))]
theorem exec_same {o : Oper} {a a' : Act} (hs : ∀ cs b, o.op ≠ .select cs b) (h : ∀ t ∈ o.looksAt ops, a'.tmps.getD t undef = a.tmps.getD t undef) : ∀ x ∈ o.op.operands, a'.eval x = a.eval x := by
  intro x hx
  cases x with
  | tmp t => exact h t (List.mem_append_left _ (List.mem_filterMap.2 ⟨.tmp t, by simpa using hx, rfl⟩))
  | _ => rfl
/-- The later one reckons: it may go first. -/
theorem swap_i {i j : Nat} {oi oj : Oper} (hi : ops[i]? = some oi) (hj : ops[j]? = some oj) (hs : Region.noSelect ops = true) (hap : oi.apart ops oj = true)
    {K : Act → World → Prop} {a : Act} {w : World} (hc : Region.wanted oi (yielded ops a.tmps) = true → CalmV P (execOp a.eval oi))
    (h : wpOp P ops (RegQ P ops n Q) j (wpOp P ops (RegQ P ops n Q) i K) a w) : wpOp P ops (RegQ P ops n Q) i (wpOp P ops (RegQ P ops n Q) j K) a w := by
  obtain ⟨h1, h2, h3⟩ := Oper.apart_spec hap
  -- what i yields
  have hy : ∃ v, Yields P ops oi v a := by
    by_cases hw : Region.wanted oi (yielded ops a.tmps) = true
    · rcases hc hw with ⟨v, hv⟩ | hh
      · exact ⟨v, .inl ⟨hw, hv⟩⟩
      · exfalso
        obtain ⟨a', w', hk, hsame⟩ := wpOp_some h
        -- i does not run to its end behind j either
        have hlook : ∀ t ∈ oi.looksAt ops, a'.tmps.getD t undef = a.tmps.getD t undef := fun t ht => hsame t fun o ho hd => by
          rw [hj] at ho
          cases ho
          exact h3 t hd ht
        have he : execOp a'.eval oi = execOp a.eval oi := execOp_congr oi (noSel hs hi) (exec_same (noSel hs hi) hlook)
        have hw' : Region.wanted oi (yielded ops a'.tmps) = true := by rw [wanted_same hlook]; exact hw
        obtain ⟨v, hy', _⟩ := yields hi (fun _ => by rw [he]; exact .inr hh) hk
        rcases hy' with ⟨_, hv⟩ | ⟨hn, _⟩
        · obtain ⟨x, w2, e⟩ := hh w
          have := hv w
          rw [he, e] at this
          cases this
        · rw [hw'] at hn; cases hn
    · exact ⟨undef, .inr ⟨by simpa using hw, rfl⟩⟩
  obtain ⟨v, hy⟩ := hy
  refine hy.wpOp hi ?_
  have keep : ∀ u, Yields P ops oi v (a.put oj.dst u) := fun u =>
    hy.of_same (execOp_put oi (noSel hs hi) a oj.dst u h3) (wanted_put oi a oj.dst u h3)
  have keepD : ∀ d, Yields P ops oi v { a with defers := d :: a.defers } := fun d => hy.of_same rfl rfl
  have step : ∀ {a' : Act} {w'}, Yields P ops oi v a' → wpOp P ops (RegQ P ops n Q) i K a' w' → K (a'.put oi.dst v) w' := by
    intro a' w' hy' hk
    obtain ⟨u, hu, hK⟩ := yields hi (fun hw => by
      rcases hy' with ⟨_, hv⟩ | ⟨hn, _⟩
      · exact .inl ⟨v, hv⟩
      · rw [hw] at hn; cases hn) hk
    have : u = v := by
      rcases hu with ⟨hw, hv⟩ | ⟨hn, rfl⟩ <;> rcases hy' with ⟨hw', hv'⟩ | ⟨hn', rfl⟩
      · have := (hv w).symm.trans (hv' w); simpa using this
      · rw [hw] at hn'; cases hn'
      · rw [hn] at hw'; cases hw'
      · rfl
    rw [← this]; exact hK
  unfold wpOp at h ⊢
  rw [hj] at h ⊢
  simp only at h ⊢
  rw [wanted_put oj a oi.dst v h1]
  split at h
  · rename_i hw
    rw [if_pos hw]
    rcases h with h | ⟨_, h⟩
    · refine .inl ?_
      unfold Oper.wp at h ⊢
      rw [execOp_put oj (noSel hs hj) a oi.dst v h1]
      generalize (execOp a.eval oj).run P w = r at h
      cases r with
      | ok n w' =>
        cases n <;> simp only [Oper.upon] at h ⊢
        case value u => rw [Act.put_comm a v u h2]; exact step (keep u) h
        case skip => rw [Act.put_comm a v undef h2]; exact step (keep _) h
        case defer d =>
          rw [Act.put_defers, Act.put_comm _ v undef h2]
          exact step ((keepD d).of_same (execOp_put oi (noSel hs hi) _ oj.dst undef h3) (wanted_put oi _ oj.dst undef h3)) h
        case enter f args =>
          refine Calls.mono h fun e w'' he => ?_
          cases e with
          | returned u => simp only at he ⊢; rw [Act.put_comm a v u h2]; exact step (keep u) he
          | panicked c => exact he.elim
          | outgrown => exact (no_out he).elim
        case row row args => exact Rows.mono h fun u w'' he => by rw [Act.put_comm a v u h2]; exact step (keep u) he
      | halt x w' => cases x <;> simp only [Oper.upon] at h; exact h.elim
    · exact (no_out h).elim
  · rename_i hw
    rw [if_neg hw, Act.put_comm a v undef h2]
    exact step (keep _) h
/-- The earlier one reckons: it may go last. -/
theorem swap_j {i j : Nat} {oi oj : Oper} (hi : ops[i]? = some oi) (hj : ops[j]? = some oj) (hs : Region.noSelect ops = true) (hap : oj.apart ops oi = true)
    {K : Act → World → Prop} {a : Act} {w : World} (hc : Region.wanted oj (yielded ops a.tmps) = true → CalmV P (execOp a.eval oj))
    (h : wpOp P ops (RegQ P ops n Q) j (wpOp P ops (RegQ P ops n Q) i K) a w) : wpOp P ops (RegQ P ops n Q) i (wpOp P ops (RegQ P ops n Q) j K) a w := by
  obtain ⟨v, hy, h2⟩ := yields hj hc h
  exact wpOp_mono (fun a' w' h3 => h3.1.wpOp hj h3.2) (wpOp_put hi hap (noSel hs hj) (noSel hs hi) no_panic hy h2)
/-- What an operation yields that leaves the world as it is. -/
def Det (P : Program) (ops : Array Oper) (o : Oper) (a : Act) (w : World) (v : Value) : Prop :=
  (Region.wanted o (yielded ops a.tmps) = true ∧ (execOp a.eval o).run P w = .ok (.value v) w) ∨ (Region.wanted o (yielded ops a.tmps) = false ∧ v = undef)
theorem Det.to {i : Nat} {o : Oper} {a : Act} {w : World} {v : Value} (hi : ops[i]? = some o) (hd : Det P ops o a w v) {K : Act → World → Prop} (h : K (a.put o.dst v) w) : wpOp P ops Q i K a w := by
  unfold wpOp
  rw [hi]
  simp only
  rcases hd with ⟨hw, hr⟩ | ⟨hw, rfl⟩
  · rw [if_pos hw]; left; unfold Oper.wp; rw [hr]; exact h
  · rw [if_neg (by simp [hw])]; exact h
theorem Det.of {i : Nat} {o : Oper} {a : Act} {w : World} (hi : ops[i]? = some o) (hl : isLoad o = true) {K : Act → World → Prop} (h : wpOp P ops (RegQ P ops n Q) i K a w) : ∃ v, Det P ops o a w v ∧ K (a.put o.dst v) w := by
  unfold wpOp at h
  rw [hi] at h
  simp only at h
  split at h
  · rename_i hw
    rcases h with h | ⟨_, h⟩
    · unfold Oper.wp at h
      cases hr : (execOp a.eval o).run P w with
      | ok n w' =>
        obtain ⟨rfl, v, rfl⟩ := still_of hl w n w' hr
        rw [hr] at h
        exact ⟨v, .inl ⟨hw, hr⟩, h⟩
      | halt x w' => rw [hr] at h; cases x <;> simp only [Oper.upon] at h; exact h.elim
    · exact (no_out h).elim
  · rename_i hw
    exact ⟨undef, .inr ⟨by simpa using hw, rfl⟩, h⟩
theorem Det.same {o : Oper} {a a' : Act} {w : World} {v : Value} (he : execOp a'.eval o = execOp a.eval o) (hw : Region.wanted o (yielded ops a'.tmps) = Region.wanted o (yielded ops a.tmps)) (h : Det P ops o a w v) : Det P ops o a' w v := by
  unfold Det at *; rw [he, hw]; exact h
/-- Two loads change places. -/
theorem swap_loads {i j : Nat} {oi oj : Oper} (hi : ops[i]? = some oi) (hj : ops[j]? = some oj) (hs : Region.noSelect ops = true) (hap : oi.apart ops oj = true) (hap' : oj.apart ops oi = true)
    (hli : isLoad oi = true) (hlj : isLoad oj = true) {K : Act → World → Prop} {a : Act} {w : World}
    (h : wpOp P ops (RegQ P ops n Q) j (wpOp P ops (RegQ P ops n Q) i K) a w) : wpOp P ops (RegQ P ops n Q) i (wpOp P ops (RegQ P ops n Q) j K) a w := by
  obtain ⟨h1, h2, h3⟩ := Oper.apart_spec hap
  obtain ⟨h1', h2', h3'⟩ := Oper.apart_spec hap'
  obtain ⟨u, hu, hk⟩ := Det.of hj hlj h
  obtain ⟨v, hv, hK⟩ := Det.of hi hli hk
  have hv' : Det P ops oi a w v := hv.same (execOp_put oi (noSel hs hi) a oj.dst u h3).symm (wanted_put oi a oj.dst u h3).symm
  have hu' : Det P ops oj (a.put oi.dst v) w u := hu.same (execOp_put oj (noSel hs hj) a oi.dst v h1) (wanted_put oj a oi.dst v h1)
  refine hv'.to hi (hu'.to hj ?_)
  rw [Act.put_comm a v u h2]; exact hK

/-! ### The theorem -/
/-- What is left, in the text's order. -/
def left (n : Nat) (listed : Array Bool) : List Nat := (List.range n).filter fun i => !listed.getD i true
/-- Is j ahead of i, by edges? -/
def ahead (md : Region.Mode) (ops : Array Oper) : Nat → Nat → Nat → Bool
  | 0, _, _ => false
  | k + 1, j, i => match ops[i]? with
    | some o => o.after.any fun e => Region.binds md e && (e.on == j || ahead md ops k j e.on)
    | none => false
def static (o : Oper) : Bool :=
  match o.op with
  | .nilCheck _ | .binOp .. | .convert .. | .call _ => false
  | _ => true
def stableAt (P : Program) (ops : Array Oper) (i k : Nat) : Bool :=
  match ops[i]?, ops[k]? with
  | some oi, some ok => !kind P oi || static oi || (match ok.dst with | some d => !(oi.looksAt ops).contains d | none => true)
  | _, _ => true
def pairOk (P : Program) (md : Region.Mode) (ops : Array Oper) (j i : Nat) : Bool :=
  match ops[j]?, ops[i]? with
  | some oj, some oi => ahead md ops ops.size j i || (oi.apart ops oj && oj.apart ops oi && (kind P oi || kind P oj || (isLoad oi && isLoad oj)))
  | _, _ => false
def textOk (P : Program) (md : Region.Mode) (ops : Array Oper) (n : Nat) : Bool :=
  Region.noSelect ops && (List.range ops.size).all fun i =>
    (match ops[i]? with | some o => o.after.all fun e => !Region.binds md e || decide (e.on < i) | none => true) &&
    (decide (i < n) || ((List.range i).all fun j => decide (j < n) || pairOk P md ops j i) &&
    ((List.range ops.size).all fun k => decide (k < i) || stableAt P ops i k))
structure Ok (P : Program) (md : Region.Mode) (ops : Array Oper) (n : Nat) : Prop where
  sel : Region.noSelect ops = true
  edge : ∀ i o, ops[i]? = some o → ∀ e ∈ o.after, Region.binds md e = true → e.on < i
  pair : ∀ i j oi oj, n ≤ j → j < i → ops[i]? = some oi → ops[j]? = some oj → ahead md ops ops.size j i = true ∨ (oi.apart ops oj = true ∧ oj.apart ops oi = true ∧ (kind P oi = true ∨ kind P oj = true ∨ (isLoad oi = true ∧ isLoad oj = true)))
  stable : ∀ (i k : Nat) (oi o' : Oper) (d : Tmp), n ≤ i → i ≤ k → ops[i]? = some oi → ops[k]? = some o' → kind P oi = true → static oi = false → o'.dst = some d → d ∉ oi.looksAt ops
theorem ok_of (h : textOk P md ops n = true) : Ok P md ops n := by
  unfold textOk at h
  simp only [Bool.and_eq_true, List.all_eq_true, List.mem_range] at h
  obtain ⟨h1, h2⟩ := h
  have lt : ∀ {i : Nat} {o : Oper}, ops[i]? = some o → i < ops.size := fun h => (Array.getElem?_eq_some_iff.1 h).1
  refine ⟨h1, fun i o hi e he hb => ?_, fun i j oi oj hnj hji hi hj => ?_, fun i k oi ok d hni hik hi hk hki hst hd hm => ?_⟩
  · have := (h2 i (lt hi)).1
    rw [hi] at this
    simp only [Array.all_eq_true_iff_forall_mem] at this
    have := this e he
    simpa [hb] using this
  · have := (h2 i (lt hi)).2
    simp only [Bool.or_eq_true, Bool.and_eq_true, decide_eq_true_eq, List.all_eq_true, List.mem_range] at this
    have := (this.resolve_left (by omega)).1 j hji
    have := this.resolve_left (by omega)
    unfold pairOk at this
    rw [hi, hj] at this
    simp only [Bool.or_eq_true, Bool.and_eq_true] at this
    rcases this with h | ⟨⟨h3, h4⟩, h5⟩
    · exact .inl h
    · exact .inr ⟨h3, h4, by rcases h5 with (h5 | h5) | h5 <;> simp [h5]⟩
  · have := (h2 i (lt hi)).2
    simp only [Bool.or_eq_true, Bool.and_eq_true, decide_eq_true_eq, List.all_eq_true, List.mem_range] at this
    have := (this.resolve_left (by omega)).2 k (lt hk)
    unfold stableAt at this
    rw [hi, hk] at this
    simp only [hki, hst, hd, Bool.or_eq_true, Bool.not_true, Bool.false_eq_true, or_false, false_or, Bool.not_eq_true', List.contains_eq_mem, decide_eq_false_iff_not] at this
    rcases this with h | h
    · omega
    · exact h hm
/-- The frame behind what is left agrees on the slots that it doesn't write, and all that reckon are fit to. -/
theorem end_of : ∀ (R : List Nat) (a : Act) (w : World), wpOps P ops (RegQ P ops n Q) R a w →
    ∃ a', calmAll P ops n a' = true ∧ ∀ t, (∀ k ∈ R, ∀ o, ops[k]? = some o → o.dst ≠ some t) → a'.tmps.getD t undef = a.tmps.getD t undef := by
  intro R
  induction R with
  | nil => intro a w h; exact ⟨a, h.1, fun _ _ => rfl⟩
  | cons k R ih =>
    intro a w h
    rw [wpOps_cons] at h
    obtain ⟨a1, w1, h1, hs1⟩ := wpOp_some h
    obtain ⟨a2, h2, hs2⟩ := ih a1 w1 h1
    refine ⟨a2, h2, fun t ht => ?_⟩
    rw [hs2 t fun k' hk' => ht k' (List.mem_cons_of_mem _ hk'), hs1 t (ht k List.mem_cons_self)]
theorem now_of {R : List Nat} {a : Act} {w : World} (h : wpOps P ops (RegQ P ops n Q) R a w) (hsel : Region.noSelect ops = true) {i : Nat} {oi : Oper} (hni : n ≤ i) (hi : ops[i]? = some oi) (hk : kind P oi = true)
    (hst : static oi = false → ∀ k ∈ R, ∀ o d, ops[k]? = some o → o.dst = some d → d ∉ oi.looksAt ops)
    (hw : Region.wanted oi (yielded ops a.tmps) = true) : CalmV P (execOp a.eval oi) := by
  refine calm_of hk ?_
  cases hs : static oi with
  | true =>
    unfold static at hs
    unfold now
    cases hop : oi.op <;> simp only [hop] at hs ⊢ <;> cases hs
  | false =>
    obtain ⟨a', hc, hsame⟩ := end_of R a w h
    have hlook : ∀ t ∈ oi.looksAt ops, a'.tmps.getD t undef = a.tmps.getD t undef := fun t ht => hsame t fun k hk' o ho hd => hst hs k hk' o t ho hd ht
    unfold calmAll at hc
    rw [List.all_eq_true] at hc
    have hm := hc oi (List.mem_of_getElem? (i := i - n) (by rw [List.getElem?_drop, Nat.add_sub_cancel' hni]; simpa using hi))
    rw [wanted_same hlook, hw, hk] at hm
    rw [← now_congr (exec_same (noSel hsel hi) hlook)]
    simpa using hm
/-- One that may come now is taken out of the middle. -/
theorem take_out (ok : Ok P md ops n) {i : Nat} {oi : Oper} (hi : ops[i]? = some oi) : ∀ (pre post : List Nat) (a : Act) (w : World),
    (∀ k ∈ pre ++ i :: post, n ≤ k) → (pre ++ i :: post).Pairwise (· < ·) → (∀ j ∈ pre, ∃ oj, ops[j]? = some oj ∧ oi.apart ops oj = true ∧ oj.apart ops oi = true ∧ (kind P oi = true ∨ kind P oj = true ∨ (isLoad oi = true ∧ isLoad oj = true))) →
    wpOps P ops (RegQ P ops n Q) (pre ++ i :: post) a w → wpOp P ops (RegQ P ops n Q) i (wpOps P ops (RegQ P ops n Q) (pre ++ post)) a w := by
  intro pre
  induction pre with
  | nil => intro post a w _ _ _ h; rw [List.nil_append, wpOps_cons] at h; exact h
  | cons j pre ih =>
    intro post a w hge hsort hpre h
    have hni : n ≤ i := hge i (by simp)
    have hnj : n ≤ j := hge j (by simp)
    obtain ⟨oj, hj, hap1, hap2, hkk⟩ := hpre j List.mem_cons_self
    have hsort' : (j :: (pre ++ i :: post)).Pairwise (· < ·) := hsort
    rw [List.pairwise_cons] at hsort'
    have h0 := h
    rw [List.cons_append, wpOps_cons] at h
    have h1 : wpOp P ops (RegQ P ops n Q) j (wpOp P ops (RegQ P ops n Q) i (wpOps P ops (RegQ P ops n Q) (pre ++ post))) a w :=
      wpOp_mono (fun a' w' h' => ih post a' w' (fun k hk => hge k (List.mem_cons_of_mem _ hk)) hsort'.2 (fun k hk => hpre k (List.mem_cons_of_mem _ hk)) h') h
    have h2 : wpOp P ops (RegQ P ops n Q) i (wpOp P ops (RegQ P ops n Q) j (wpOps P ops (RegQ P ops n Q) (pre ++ post))) a w := by
      rcases hkk with hk | hk | hk
      · refine swap_i hi hj ok.sel hap1 (fun hw => ?_) h1
        refine now_of h0 ok.sel hni hi hk (fun hst k hkm o d ho hd => ?_) hw
        rcases List.mem_append.1 hkm with hkp | hkp
        · obtain ⟨o', ho', _, hb, _⟩ := hpre k hkp
          rw [ho'] at ho; cases ho
          exact (Oper.apart_spec hb).1 d hd
        · have hle : i ≤ k := by
            rcases List.mem_cons.1 hkp with rfl | hkp
            · exact Nat.le_refl _
            · have hs3 := (List.pairwise_append.1 hsort).2.1
              rw [List.pairwise_cons] at hs3
              exact Nat.le_of_lt (hs3.1 k hkp)
          exact ok.stable i k oi o d hni hle hi ho hk hst hd
      · refine swap_j hi hj ok.sel hap2 (fun hw => ?_) h1
        refine now_of h0 ok.sel hnj hj hk (fun hst k hkm o d ho hd => ?_) hw
        have hle : j ≤ k := by
          rcases List.mem_cons.1 hkm with rfl | hkm
          · exact Nat.le_refl _
          · exact Nat.le_of_lt (hsort'.1 k hkm)
        exact ok.stable j k oj o d hnj hle hj ho hk hst hd
      · exact swap_loads hi hj ok.sel hap1 hap2 hk.1 hk.2 h1
    rw [List.cons_append, show wpOps P ops (RegQ P ops n Q) (j :: (pre ++ post)) = wpOp P ops (RegQ P ops n Q) j (wpOps P ops (RegQ P ops n Q) (pre ++ post)) from funext fun a => funext fun w => wpOps_cons _ _ _ _]
    exact h2
def Closed (md : Region.Mode) (ops : Array Oper) (listed : Array Bool) : Prop :=
  listed.size = ops.size ∧ ∀ j oj, ops[j]? = some oj → listed.getD j false = true → ∀ e ∈ oj.after, Region.binds md e = true → listed.getD e.on false = true
theorem ahead_listed {listed : Array Bool} (hc : Closed md ops listed) : ∀ (k j i : Nat) (oi : Oper), ops[i]? = some oi → (∀ e ∈ oi.after, Region.binds md e = true → listed.getD e.on false = true) →
    ahead md ops k j i = true → listed.getD j false = true := by
  intro k
  induction k with
  | zero => intro j i oi _ _ h; simp [ahead] at h
  | succ k ih =>
    intro j i oi hi hall h
    simp only [ahead, hi, Array.any_eq_true', Bool.and_eq_true, Bool.or_eq_true, beq_iff_eq] at h
    obtain ⟨e, he, hb, h | h⟩ := h
    · rw [← h]; exact hall e he hb
    · have hl := hall e he hb
      cases hoe : ops[e.on]? with
      | none =>
        have hlt : ¬ e.on < ops.size := fun hlt => by rw [Array.getElem?_eq_getElem hlt] at hoe; cases hoe
        have : listed.getD e.on false = false := by
          rw [Array.getD_eq_getD_getElem?, Array.getElem?_eq_none (by rw [hc.1]; omega)]; rfl
        rw [this] at hl; cases hl
      | some oe => exact ih j e.on oe hoe (hc.2 e.on oe hoe hl) h
theorem mem_left {n : Nat} {listed : Array Bool} {i : Nat} : i ∈ left n listed ↔ i < n ∧ listed.getD i true = false := by
  unfold left; rw [List.mem_filter, List.mem_range]; simp
theorem left_sorted (n : Nat) (listed : Array Bool) : (left n listed).Pairwise (· < ·) := List.Pairwise.filter _ List.pairwise_lt_range
theorem left_set {n : Nat} {listed : Array Bool} (hs : listed.size = n) {i : Nat} {pre post : List Nat} (h : left n listed = pre ++ i :: post) : left n (listed.setIfInBounds i true) = pre ++ post := by
  have hnd : (left n listed).Nodup := (left_sorted n listed).imp fun h => Nat.ne_of_lt h
  have hfil : left n (listed.setIfInBounds i true) = (left n listed).filter (· != i) := by
    unfold left
    rw [List.filter_filter]
    apply List.filter_congr
    intro k hk
    have hk' := List.mem_range.1 hk
    by_cases hki : i = k
    · subst hki
      have : (listed.setIfInBounds i true).getD i true = true := by
        rw [Array.getD_eq_getD_getElem?, Array.getElem?_setIfInBounds_self]
        split <;> rfl
      rw [this]; simp
    · rw [getD_set_ne true hki]
      have : (k != i) = true := by simp; omega
      rw [this]; simp
  rw [hfil, h, List.filter_append, List.filter_cons]
  rw [h] at hnd
  have hn := List.nodup_append.1 hnd
  have h1 : pre.filter (· != i) = pre := List.filter_eq_self.2 fun k hk => by
    have := hn.2.2 k hk i List.mem_cons_self
    simpa using this
  have h2 : post.filter (· != i) = post := List.filter_eq_self.2 fun k hk => by
    have := (List.nodup_cons.1 hn.2.1).1
    have hne : k ≠ i := fun e => this (e ▸ hk)
    simpa using hne
  rw [h1, h2]; simp
theorem getD_tf {listed : Array Bool} {i : Nat} (h : listed.getD i true = false) : listed.getD i false = false := by
  rcases Nat.lt_or_ge i listed.size with h' | h'
  · simp [h'] at h ⊢; exact h
  · simp [Array.getElem?_eq_none h'] at h
theorem text_any (ok : Ok P md ops n) : ∀ (fuel : Nat) (listed : Array Bool) (a : Act) (w : World), Closed md ops listed → (∀ k ∈ left ops.size listed, n ≤ k) → (left ops.size listed).length ≤ fuel →
    wpOps P ops (RegQ P ops n Q) (left ops.size listed) a w → wpAny P md ops Q fuel listed a w := by
  have hempty : ∀ (listed : Array Bool), Closed md ops listed → Region.ready md ops listed = [] → left ops.size listed = [] := by
    intro listed hc hr
    cases hl : left ops.size listed with
    | nil => rfl
    | cons i R =>
      exfalso
      have hi := mem_left.1 (hl ▸ List.mem_cons_self : i ∈ left ops.size listed)
      have hoi : ops[i]? = some ops[i] := Array.getElem?_eq_getElem hi.1
      have : i ∈ Region.ready md ops listed := mem_ready.2 ⟨hi.2, _, hoi, fun e he hb => by
        have hlt := ok.edge i _ hoi e he hb
        cases hge : listed.getD e.on false with
        | true => rfl
        | false =>
          exfalso
          have hm : e.on ∈ left ops.size listed := mem_left.2 ⟨by omega, by
            rw [Array.getD_eq_getD_getElem?, Array.getElem?_eq_getElem (by rw [hc.1]; omega)] at hge ⊢; exact hge⟩
          rw [hl] at hm
          rcases List.mem_cons.1 hm with h | h
          · omega
          · have hs := left_sorted ops.size listed
            rw [hl, List.pairwise_cons] at hs
            have := hs.1 _ h
            omega⟩
      rw [hr] at this; cases this
  intro fuel
  induction fuel with
  | zero =>
    intro listed a w hc hge hlen h
    have hnil : left ops.size listed = [] := List.eq_nil_of_length_eq_zero (by omega)
    rw [hnil] at h
    refine ⟨?_, h.2⟩
    cases hr : Region.ready md ops listed with
    | nil => rfl
    | cons i rs =>
      exfalso
      obtain ⟨h1, o, h2, _⟩ := mem_ready.1 (hr ▸ List.mem_cons_self : i ∈ Region.ready md ops listed)
      have : i ∈ left ops.size listed := mem_left.2 ⟨(Array.getElem?_eq_some_iff.1 h2).1, h1⟩
      rw [hnil] at this; cases this
  | succ fuel ih =>
    intro listed a w hc hge hlen h
    refine ⟨fun hr => ?_, fun i hir => ?_⟩
    · rw [hempty listed hc hr] at h; exact h.2
    · obtain ⟨hun, oi, hi, hall⟩ := mem_ready.1 hir
      have hm : i ∈ left ops.size listed := mem_left.2 ⟨(Array.getElem?_eq_some_iff.1 hi).1, hun⟩
      obtain ⟨pre, post, hsplit⟩ := List.append_of_mem hm
      have hsort := left_sorted ops.size listed
      have hge' := hge
      rw [hsplit] at hsort h hge'
      have hpre : ∀ j ∈ pre, ∃ oj, ops[j]? = some oj ∧ oi.apart ops oj = true ∧ oj.apart ops oi = true ∧ (kind P oi = true ∨ kind P oj = true ∨ (isLoad oi = true ∧ isLoad oj = true)) := by
        intro j hj
        have hjl := mem_left.1 (hsplit ▸ List.mem_append_left _ hj : j ∈ left ops.size listed)
        have hji : j < i := (List.pairwise_append.1 hsort).2.2 j hj i List.mem_cons_self
        have hoj : ops[j]? = some ops[j] := Array.getElem?_eq_getElem hjl.1
        refine ⟨_, hoj, ?_⟩
        rcases ok.pair i j oi _ (hge' j (List.mem_append_left _ hj)) hji hi hoj with ha | hq
        · have := ahead_listed hc _ _ _ _ hi hall ha
          rw [getD_tf hjl.2] at this; cases this
        · exact hq
      have h3 := take_out ok hi pre post a w hge' hsort hpre h
      refine wpOp_up (fun a' w' h' => ?_) h3
      have hset := left_set hc.1 hsplit
      refine ih (listed.setIfInBounds i true) a' w' ⟨by simp [hc.1], fun j oj hj hl e he hb => ?_⟩ ?_ ?_ ?_
      · by_cases hij : i = j
        · subst hij
          have : oj = oi := Option.some.inj (hj.symm.trans hi)
          subst this
          exact getD_set_true (hall e he hb)
        · rw [getD_set_ne false hij] at hl
          exact getD_set_true (hc.2 j oj hj hl e he hb)
      · rw [hset]
        intro k hk
        refine hge' k ?_
        rcases List.mem_append.1 hk with h | h
        · exact List.mem_append_left _ h
        · exact List.mem_append_right _ (List.mem_cons_of_mem _ h)
      · rw [hset]
        rw [hsplit] at hlen
        simp only [List.length_append, List.length_cons] at hlen ⊢
        omega
      · rw [hset]; exact h'
/-- A REGION THAT DRAWS ITS ORDER, WALKED IN THE TEXT's. -/
theorem wp_text {id : Nat} {l : List Oper} {a : Act} {w : World} (hm : P.follows .mixedOrders = true) (hok : textOk P .any l.toArray 0 = true)
    (h : wpList P l.toArray (RegQ P l.toArray 0 Q) l a w.drew) : (Code.region id l.toArray true).wp P Q a w := by
  refine wp_region_any hm ?_
  refine text_any (ok_of hok) l.toArray.size _ a _ ⟨by simp, fun j oj hj hl => ?_⟩ (fun _ _ => Nat.zero_le _) ?_ ?_
  · rw [Array.getD_eq_getD_getElem?, Array.getElem?_replicate] at hl
    split at hl <;> simp at hl
  · unfold left
    exact Nat.le_trans (List.length_filter_le _ _) (by simp)
  · have hleft : left l.toArray.size (Array.replicate l.toArray.size false) = List.range l.toArray.size := by
      unfold left
      refine List.filter_eq_self.2 fun i hi => ?_
      have := List.mem_range.1 hi
      rw [Array.getD_eq_getD_getElem?, Array.getElem?_replicate, if_pos this]; rfl
    rw [hleft, List.range_eq_range']
    have := wpOps_eq_wpList (P := P) (ops := l.toArray) (Q := RegQ P l.toArray 0 Q) l 0 (by simp)
    rw [show l.toArray.size = l.length from by simp, this]
    exact h
/-- Its end. -/
theorem fin {a : Act} {w : World} (hc : calmAll P ops n a = true) (h : Q .normal a w) : RegQ P ops n Q .normal a w := ⟨hc, h⟩
end
end Reg
end Go.Proofs.Ytgdgonmhgpflcaa


/- Small laws over any program: a row of the call's own is appended to, or becomes a string. No condition. -/
namespace Go.RowKit
/-- One call more. -/
theorem Below.step {w w1 w2 : World} (h : Below w.heap.size w w1) (k : Below w1.heap.size w1 w2) : Below w.heap.size w w2 := h.trans (k.mono h.size)
end Go.RowKit
namespace Go.Proofs.Ytgdgonmhgpflcaa
open Go.RowKit

/-- What a type's row of the table says: its zero value, its cells, its bytes. -/
def Info (P : Program) (e : TypeId) (z : Value) (size bytes : Nat) : Prop :=
  (P.info? e).map (fun i => (i.zero, i.size, i.bytes)) = some (some z, size, bytes)

/-! Texts: Go's '==' as the walk writes it. -/
theorem str_t {a b : ByteArray} (h : (a.toList == b.toList) = true) : a = b := by
  rw [ByteArray.toList_eq, ByteArray.toList_eq] at h
  exact ByteArray.ext (Array.toList_inj.1 (by simpa using h))
theorem str_f {a b : ByteArray} (h : (a.toList == b.toList) = false) : ¬ a = b := by
  intro e; subst e; simp at h
theorem str_nt {a b : ByteArray} (h : (!(a.toList == b.toList)) = true) : ¬ a = b := str_f (by simpa using h)
theorem str_nf {a b : ByteArray} (h : (!(a.toList == b.toList)) = false) : a = b := str_t (by simpa using h)
theorem str_of {a b : ByteArray} (h : a = b) : (a.toList == b.toList) = true := by subst h; simp
theorem str_ne {a b : ByteArray} (h : ¬ a = b) : (a.toList == b.toList) = false := by
  cases hh : (a.toList == b.toList) with
  | false => rfl
  | true => exact absurd (str_t hh) h

theorem bcell {W w1 : World} (hb : Below W.heap.size W w1) : (∀ b o, b < W.heap.size → w1.cell? ⟨b, o, none⟩ = W.cell? ⟨b, o, none⟩) ∧ (∀ b o, b < W.heap.size → w1.frozen? ⟨b, o, none⟩ = W.frozen? ⟨b, o, none⟩) :=
  ⟨fun b o h => hb.cell (p := ⟨b, o, none⟩) h, fun b o h => hb.frozen (p := ⟨b, o, none⟩) h⟩

/-- 'string(b)', b a row of one byte that was laid just now. -/
theorem run_conv1 {P : Program} {src dst e : TypeId} (hs : P.underlying src = some (.slice e)) (he : P.underlying e = some (.int .u8)) (hd : P.underlying dst = some .string)
    (W : World) (b : Nat) (v : Int) (h : W.cell? ⟨b, 0, none⟩ = some (.int .u8 v)) : (convert src dst (.slice (some ⟨b, 0, none⟩) 1 1)).run P W = .ok (.string ⟨#[UInt8.ofNat v.toNat]⟩) W := by
  rw [run_convert_bytes_string W src dst e _ 1 1 hs he hd]
  have hl : (loadCells ⟨b, 0, none⟩ 1).run P W = .ok ([v].map (Value.int .u8)).toArray W := by
    have := run_loadCells_list (P := P) W ⟨b, 0, none⟩ ([v].map (Value.int .u8)) (fun j u hj => by
      cases j with
      | zero => simp at hj; subst hj; simpa [Addr.add] using h
      | succ j => simp at hj)
    simpa using this
  rw [run_bytesToString W _ 1 1 [v] hl]
  rfl

section
variable {P : Program} {ops : Array Oper} {rest : List Oper} {o : Oper} {a : Act} {Q : Exit → Act → World → Prop}

/-- 's = append(s, x)', x one new cell that was laid just now. -/
theorem wpl_append_one {w0 : World} {y : Value} {e' : TypeId} {s x : Operand} {t e : TypeId} {z : Value} {bytes : Nat} {base : Nat} {v : Value} {n : Nat} {xs : List Value}
    (hgd : o.guard = none) (ho : o.op = .call { callee := .builtin .append, args := #[s, x], argTypes := #[t, t] })
    (hx : a.eval x = .slice (some ⟨w0.heap.size, 0, none⟩) 1 1) (hs : a.eval s = v)
    (ht : P.underlying t = some (.slice e)) (hi : Info P e z 1 bytes) (hz : z.cells.size = 1) (hy : y.oneCell' = true)
    (hown : w0.ownsRow base e 1 v n xs) (hn : n < 2147483648) (hb : bytes ≤ 1024) (hbase : base ≤ w0.heap.size)
    (h : ∀ v' w', w'.ownsRow base e 1 v' (n + 1) (xs ++ [y]) → Below base w0 w' → wpList P ops Q rest (a.put o.dst v') w') :
    wpList P ops Q (o :: rest) a (w0.alloc (.cells #[y] e')) := by
  obtain ⟨i, hi1, hi2, hi3, hi4⟩ := info_parts hi
  refine wpList_append_own _ hgd s x t ho base e i z 1 bytes ht hi1 hi2 hi3 hi4 hz (by decide) v n xs hs (hown.alloc _) _ 1 1 [y] hx rfl (cell_one_new _ _ _) (by simpa using hy)
    (by unfold maxLen; omega) (by have : (n + 1) * bytes ≤ 2147483648 * 1024 := Nat.mul_le_mul (by omega) hb; omega) (by simp; omega) ?_
  intro v' w' h1 h2 _
  refine h v' w' h1 (((Below.refl _ _).alloc hbase _).grown h2 (by simp; omega) ?_)
  intro k hk
  exact (hown.lt k hk).1

/-- 'string(b)', b a row of bytes of the call's own. -/
theorem wpl_bytes_string {w : World} {x : Operand} {src dst e : TypeId} {base : Nat} {v : Value} {n : Nat} (l : List UInt8)
    (hgd : o.guard = none) (ho : o.op = .convert src dst x) (hx : a.eval x = v)
    (hs : P.underlying src = some (.slice e)) (he : P.underlying e = some (.int .u8)) (hd : P.underlying dst = some .string)
    (hown : w.ownsRow base e 1 v n (l.map fun b => .int .u8 b.toNat))
    (h : wpList P ops Q rest (a.put o.dst (.string ⟨l.toArray⟩)) w) : wpList P ops Q (o :: rest) a w := by
  have hr : (convert src dst v).run P w = .ok (.string ⟨l.toArray⟩) w := by
    have hl : l.length = n := by simpa using hown.1
    rcases hown.2 with ⟨rfl, rfl⟩ | ⟨g, cap, cur, rfl, _, hg, _, _, _, htake⟩
    · have : l = [] := List.eq_nil_of_length_eq_zero hl
      subst this
      rw [run_convert_bytes_string w src dst e none 0 0 hs he hd]
      simp [Conv.bytesToString]
      rfl
    · subst hl
      refine run_convert_bytes_back w src dst e _ cap l hs he hd (fun j hj => ?_)
      have hadd : (⟨g, 0, none⟩ : Addr).add j = ⟨g, j, none⟩ := by unfold Addr.add; split <;> simp_all
      rw [hadd, cell_of_row w g j cur e (0, 0) hg]
      have h1 : (l.map fun b => Value.int .u8 (b.toNat : Int))[j]? = some (.int .u8 (l[j].toNat : Int)) := by simp [hj]
      rw [← htake, List.getElem?_take] at h1
      split at h1
      · simpa using h1
      · cases h1
  refine wpList_plain hgd fun K hK => ?_
  unfold Oper.wp execOp
  simp only [ho, hx, Sem.run_bind, hr, Result.andThen_ok, Sem.run_pure]
  exact hK _ _ h
end
end Go.Proofs.Ytgdgonmhgpflcaa


/- Numbers as bytes, in plain terms: what is written, what is read, and that each is the other's. No condition. -/
namespace Go.Proofs.Ytgdgonmhgpflcaa
namespace Num

def lebF : Nat → Nat → List UInt8
  | 0, x => [UInt8.ofNat x]
  | n + 1, x => if x < 128 then [UInt8.ofNat x] else UInt8.ofNat (x % 128 + 128) :: lebF n (x / 128)
/-- The bytes of a number. -/
def leb (x : Nat) : List UInt8 := lebF x x
theorem lebF_fuel (n : Nat) : ∀ m x, x ≤ n → x ≤ m → lebF n x = lebF m x := by
  induction n with
  | zero => intro m x h1 h2; have : x = 0 := by omega
            subst this; cases m <;> simp [lebF]
  | succ n ih =>
    intro m x h1 h2
    cases m with
    | zero => have : x = 0 := by omega
              subst this; simp [lebF]
    | succ m =>
      simp only [lebF]
      split
      · rfl
      · rw [ih m (x / 128) (by omega) (by omega)]
theorem leb_lt (x : Nat) (h : x < 128) : leb x = [UInt8.ofNat x] := by
  unfold leb; cases x with
  | zero => rfl
  | succ n => simp only [lebF]; rw [if_pos h]
theorem leb_ge (x : Nat) (h : 128 ≤ x) : leb x = UInt8.ofNat (x % 128 + 128) :: leb (x / 128) := by
  unfold leb; cases x with
  | zero => omega
  | succ n => simp only [lebF]; rw [if_neg (by omega), lebF_fuel n ((n+1)/128) _ (by omega) (by omega)]
theorem leb_pos (x : Nat) : 1 ≤ (leb x).length := by
  by_cases h : x < 128
  · rw [leb_lt x h]; simp
  · rw [leb_ge x (by omega)]; simp
/-- As text. -/
def lebS (x : Int) : ByteArray := ⟨(leb x.toNat).toArray⟩

/-- The number that bytes stand for, the least seven bits first. -/
def val : List UInt8 → Nat
  | [] => 0
  | b :: r => b.toNat % 128 + 128 * val r
theorem ofNat_toNat (n : Nat) (h : n < 256) : (UInt8.ofNat n).toNat = n := by
  simp [UInt8.toNat_ofNat']; omega

/-- How many bytes at the front go on. -/
def ups : List UInt8 → Nat
  | [] => 0
  | b :: r => if 128 ≤ b.toNat then ups r + 1 else 0
theorem ups_le (l : List UInt8) : ups l ≤ l.length := by
  induction l with
  | nil => simp [ups]
  | cons b r ih => simp only [ups]; split <;> simp <;> omega
/-- What is read at the front: the number, how many bytes, why there is none (0, 10 short, 8 form). -/
def rd (l : List UInt8) : Nat × Nat × Nat :=
  let k := ups l
  if k < 10 ∧ k = l.length then (0, 0, 10)
  else if 10 ≤ k then (0, 0, 8)
  else
    let last := ((l[k]?).getD 0).toNat
    if last = 0 ∧ 1 ≤ k then (0, 0, 8)
    else if k = 9 ∧ 1 < last then (0, 0, 8)
    else (val (l.take (k + 1)), k + 1, 0)

def zig (x : Int) : Int := if 0 ≤ x then 2 * x else -2 * x - 1
def zag (u : Int) : Int := if u % 2 = 0 then u / 2 else - (u / 2) - 1
theorem zag_zig (x : Int) : zag (zig x) = x := by unfold zag zig; split <;> split <;> omega
theorem zig_zag (u : Int) (h : 0 ≤ u) : zig (zag u) = u := by unfold zag zig; split <;> split <;> omega
theorem zig_range (x : Int) (h1 : -9223372036854775808 ≤ x) (h2 : x ≤ 9223372036854775807) : 0 ≤ zig x ∧ zig x ≤ 18446744073709551615 := by unfold zig; split <;> omega
theorem zag_range (u : Int) (h1 : 0 ≤ u) (h2 : u ≤ 18446744073709551615) : -9223372036854775808 ≤ zag u ∧ zag u ≤ 9223372036854775807 := by unfold zag; split <;> omega

theorem val_leb (n : Nat) : ∀ x, x ≤ n → val (leb x) = x := by
  induction n with
  | zero => intro x h; have : x = 0 := by omega
            subst this; rfl
  | succ n ih =>
    intro x h
    by_cases hx : x < 128
    · rw [leb_lt x hx]; simp only [val]; rw [ofNat_toNat _ (by omega)]; omega
    · rw [leb_ge x (by omega)]; simp only [val]; rw [ofNat_toNat _ (by omega), ih (x / 128) (by omega)]; omega
theorem val_leb' (x : Nat) : val (leb x) = x := val_leb x x (Nat.le_refl _)
theorem leb_inj {x y : Nat} (h : leb x = leb y) : x = y := by rw [← val_leb' x, h, val_leb']
/-- The form of a number's bytes: all but the last go on; the last is not 0, unless it is the only one. -/
theorem leb_form (n : Nat) : ∀ x, x ≤ n → ∀ s, ups (leb x ++ s) + 1 = (leb x).length ∧ (∃ c, (leb x)[ups (leb x ++ s)]? = some c ∧ (c.toNat = 0 → x = 0) ∧ c.toNat < 128) := by
  induction n with
  | zero => intro x h s; have : x = 0 := by omega
            subst this; rw [leb_lt 0 (by omega)]; simp [ups]
  | succ n ih =>
    intro x h s
    by_cases hx : x < 128
    · rw [leb_lt x hx]
      have hu : ups ([UInt8.ofNat x] ++ s) = 0 := by
        simp only [List.cons_append, List.nil_append, ups]; rw [ofNat_toNat _ (by omega), if_neg (by omega)]
      rw [hu]
      refine ⟨rfl, _, rfl, ?_⟩
      rw [ofNat_toNat _ (by omega)]; omega
    · rw [leb_ge x (by omega)]
      obtain ⟨h1, c, h2, h3, h4⟩ := ih (x / 128) (by omega) s
      have hu : ups (UInt8.ofNat (x % 128 + 128) :: leb (x / 128) ++ s) = ups (leb (x / 128) ++ s) + 1 := by
        simp only [List.cons_append, ups]; rw [ofNat_toNat _ (by omega), if_pos (by omega)]
      rw [hu]
      refine ⟨by simp; omega, c, by simpa using h2, fun h => ?_, h4⟩
      have := h3 h; omega
/-- A number below 2^(7k) has at most k bytes, and one that is not has more. -/
theorem leb_len (k : Nat) : ∀ x, x < 128 ^ (k + 1) → (leb x).length ≤ k + 1 := by
  induction k with
  | zero => intro x h; rw [leb_lt x (by simpa using h)]; simp
  | succ k ih =>
    intro x h
    by_cases hx : x < 128
    · rw [leb_lt x hx]; simp
    · rw [leb_ge x (by omega)]
      have := ih (x / 128) (by rw [Nat.pow_succ] at h; omega)
      simp; omega
theorem leb_len10 (x : Nat) (h : x < 18446744073709551616) : (leb x).length ≤ 10 :=
  leb_len 9 x (by have : (128 : Nat) ^ (9 + 1) = 1180591620717411303424 := by decide
                  omega)
theorem leb_mono (n : Nat) : ∀ x y, y ≤ n → x ≤ y → (leb x).length ≤ (leb y).length := by
  induction n with
  | zero => intro x y h1 h2; have : x = y := by omega
            rw [this]; exact Nat.le_refl _
  | succ n ih =>
    intro x y h1 h2
    by_cases hx : x < 128
    · rw [leb_lt x hx]; exact leb_pos y
    · rw [leb_ge x (by omega), leb_ge y (by omega)]
      have := ih (x / 128) (y / 128) (by omega) (by omega)
      simp; omega
theorem take_append_self {α : Type} (l s : List α) : (l ++ s).take l.length = l := by simp
theorem last_small (k : Nat) : ∀ x, (leb x).length = k + 1 → x < 18446744073709551616 → ∀ c, (leb x)[k]? = some c → k = 9 → c.toNat ≤ 1 := by
  intro x h hx c hc hk
  subst hk
  have key : ∀ k x, (leb x).length = k + 1 → ∀ c, (leb x)[k]? = some c → c.toNat = x / 128 ^ k := by
    intro k
    induction k with
    | zero =>
      intro x h c hc
      by_cases h' : x < 128
      · rw [leb_lt x h'] at hc; simp at hc; rw [← hc, ofNat_toNat _ (by omega)]; simp
      · rw [leb_ge x (by omega)] at h; have := leb_pos (x / 128); simp only [List.length_cons] at h; omega
    | succ k ih =>
      intro x h c hc
      by_cases h' : x < 128
      · rw [leb_lt x h'] at h; simp at h
      · rw [leb_ge x (by omega)] at h hc
        rw [ih (x / 128) (by simpa using h) c (by simpa using hc), Nat.div_div_eq_div_mul, Nat.pow_succ, Nat.mul_comm]
  have := key 9 x h c hc
  have h2 : (128 : Nat) ^ 9 = 9223372036854775808 := by decide
  rw [h2] at this
  omega
/-- What was written is read as itself, whatever stands behind. -/
theorem rd_leb (x : Nat) (hx : x < 18446744073709551616) (s : List UInt8) : rd (leb x ++ s) = (x, (leb x).length, 0) := by
  obtain ⟨h1, c, h2, h3, h4⟩ := leb_form x x (Nat.le_refl _) s
  have h10 := leb_len10 x hx
  have hp := leb_pos x
  generalize hk : ups (leb x ++ s) = k at h1 h2
  have hg : ((leb x ++ s)[k]?).getD 0 = c := by rw [List.getElem?_append_left (by omega), h2]; rfl
  unfold rd
  simp only [hk, hg]
  rw [if_neg (by simp; omega), if_neg (by omega), if_neg ?_, if_neg ?_]
  · rw [h1, take_append_self, val_leb']
  · rintro ⟨h9, hc⟩
    have := last_small k x h1.symm hx c h2 h9
    omega
  · rintro ⟨h9, hc⟩
    have h0 := h3 h9
    subst h0
    rw [leb_lt 0 (by omega)] at h1
    simp at h1; omega
/-- What is cut off is short. -/
theorem ups_take (n : Nat) : ∀ x, x ≤ n → ∀ i, i < (leb x).length → ups ((leb x).take i) = i := by
  induction n with
  | zero => intro x h i hi; have : x = 0 := by omega
            subst this; rw [leb_lt 0 (by omega)] at hi ⊢; have : i = 0 := by simpa using hi
            subst this; rfl
  | succ n ih =>
    intro x h i hi
    by_cases hx : x < 128
    · rw [leb_lt x hx] at hi ⊢; have : i = 0 := by simpa using hi
      subst this; rfl
    · rw [leb_ge x (by omega)] at hi ⊢
      cases i with
      | zero => rfl
      | succ i =>
        simp only [List.take_succ_cons, ups]
        rw [ofNat_toNat _ (by omega), if_pos (by omega), ih (x / 128) (by omega) i (by simpa using hi)]
theorem rd_short (x : Nat) (hx : x < 18446744073709551616) (i : Nat) (hi : i < (leb x).length) : rd ((leb x).take i) = (0, 0, 10) := by
  have h := ups_take x x (Nat.le_refl _) i hi
  have h10 := leb_len10 x hx
  unfold rd
  simp only [h]
  rw [if_pos]
  simp; omega
/-- Bytes that go on, then one that does not and is not 0 (or stands alone) are a number's own. -/
theorem leb_val (l : List UInt8) : ∀ k, ups l = k → k < l.length → (((l[k]?).getD 0).toNat = 0 → k = 0) → leb (val (l.take (k + 1))) = l.take (k + 1) := by
  induction l with
  | nil => intro k _ h; simp at h
  | cons b r ih =>
    intro k hu hl h0
    simp only [ups] at hu
    split at hu
    · rename_i hb
      subst hu
      have hlr : ups r < r.length := by simpa using hl
      have h0' : ((r[ups r]?).getD 0).toNat = 0 → ups r = 0 := fun h => by have := h0 (by simpa using h); omega
      have hi := ih (ups r) rfl hlr h0'
      have hpos : 1 ≤ val (r.take (ups r + 1)) := by
        rcases Nat.eq_zero_or_pos (val (r.take (ups r + 1))) with hz | hz
        · exfalso
          rw [hz, leb_lt 0 (by omega)] at hi
          have hlen : (r.take (ups r + 1)).length = 1 := by rw [← hi]; rfl
          have hz2 : ups r = 0 := by simp at hlen; omega
          rw [hz2] at hi hlr
          have : (r[0]?).getD 0 = 0 := by
            cases r with
            | nil => simp at hlr
            | cons c r => simp at hi; simp [← hi]
          have := h0 (by simp [hz2, this])
          omega
        · exact hz
      rw [List.take_succ_cons]
      simp only [val]
      have hbl := b.toNat_lt
      rw [leb_ge _ (by omega)]
      have e1 : (b.toNat % 128 + 128 * val (r.take (ups r + 1))) / 128 = val (r.take (ups r + 1)) := by omega
      have e2 : (b.toNat % 128 + 128 * val (r.take (ups r + 1))) % 128 + 128 = b.toNat := by omega
      rw [e1, e2, hi]
      simp
    · subst hu
      rename_i hb
      simp only [Nat.zero_add, List.take_succ_cons, List.take_zero, val]
      rw [leb_lt _ (by omega)]
      have e : b.toNat % 128 + 128 * 0 = b.toNat := by omega
      rw [e]; simp
theorem val_lt (l : List UInt8) : val l < 128 ^ l.length := by
  induction l with
  | nil => simp [val]
  | cons b r ih => simp only [val, List.length_cons, Nat.pow_succ]; omega
theorem val_take_succ (l : List UInt8) : ∀ k, k < l.length → val (l.take (k + 1)) = val (l.take k) + 128 ^ k * (((l[k]?).getD 0).toNat % 128) := by
  induction l with
  | nil => intro k h; simp at h
  | cons b r ih =>
    intro k h
    cases k with
    | zero => simp [val]
    | succ k =>
      have := ih k (by simpa using h)
      simp only [List.take_succ_cons, val, this, List.getElem?_cons_succ, Nat.pow_succ, Nat.mul_add]
      rw [show 128 ^ k * 128 * ((r[k]?.getD 0).toNat % 128) = 128 * (128 ^ k * ((r[k]?.getD 0).toNat % 128)) from by rw [Nat.mul_comm (128 ^ k) 128, Nat.mul_assoc]]
      omega
/-- Bytes that are read are the number's own. -/
theorem rd_ok {l : List UInt8} {x n : Nat} (h : rd l = (x, n, 0)) : n ≤ l.length ∧ leb x = l.take n ∧ x < 18446744073709551616 ∧ 1 ≤ n := by
  have hu := ups_le l
  unfold rd at h
  simp only at h
  split at h
  · simp at h
  · rename_i h1
    split at h
    · simp at h
    · rename_i h2
      split at h
      · simp at h
      · rename_i h3
        split at h
        · simp at h
        · rename_i h4
          simp only [Prod.mk.injEq, and_true] at h
          obtain ⟨rfl, rfl⟩ := h
          have hlt : ups l < l.length := by omega
          refine ⟨by omega, leb_val l _ rfl hlt (fun h => by omega), ?_, by omega⟩
          rw [val_take_succ l _ hlt]
          have hv := val_lt (l.take (ups l))
          rw [List.length_take, Nat.min_eq_left (by omega)] at hv
          by_cases h9 : ups l = 9
          · rw [h9] at hv h4 ⊢
            have e : (128 : Nat) ^ 9 = 9223372036854775808 := by decide
            rw [e] at hv ⊢
            have : ((l[9]?).getD 0).toNat % 128 ≤ 1 := by omega
            omega
          · have e : (128 : Nat) ^ 9 = 9223372036854775808 := by decide
            have : 128 ^ ups l * 128 ≤ 128 ^ 9 := by rw [← Nat.pow_succ]; exact Nat.pow_le_pow_right (by omega) (by omega)
            have h5 : ((l[ups l]?).getD 0).toNat % 128 ≤ 127 := by omega
            have h6 := Nat.mul_le_mul_left (128 ^ ups l) h5
            omega
theorem rd_err {l : List UInt8} : (rd l).2.2 = 0 ∨ ((rd l).1 = 0 ∧ (rd l).2.1 = 0) := by
  unfold rd; simp only; repeat' split
  all_goals simp
/-- The number of bytes, reckoned of the bits. -/
theorem leb_bits (k : Nat) : ∀ x, 128 ^ k ≤ x → k + 1 ≤ (leb x).length := by
  induction k with
  | zero => intro x _; exact leb_pos x
  | succ k ih =>
    intro x h
    have h128 : 128 ≤ x := Nat.le_trans (by rw [Nat.pow_succ]; exact Nat.le_mul_of_pos_left _ (Nat.pow_pos (by decide))) h
    rw [leb_ge x h128]
    have := ih (x / 128) (by rw [Nat.pow_succ] at h; omega)
    simp; omega
/-! What the program's reader finds at its loop's head: 'Up l k': the first k bytes go on. -/
def Up (l : List UInt8) (k : Nat) : Prop := k ≤ ups l
theorem up_zero (l : List UInt8) : Up l 0 := Nat.zero_le _
theorem ups_of (l : List UInt8) : ∀ k, Up l k → ∀ h : k < l.length, ups l = if 128 ≤ (l[k]).toNat then ups l else k := by
  induction l with
  | nil => intro k _ h; simp at h
  | cons b r ih =>
    intro k hk h
    cases k with
    | zero => simp only [List.getElem_cons_zero, ups]; split <;> rfl
    | succ k =>
      simp only [Up, ups] at hk
      split at hk
      · rename_i hb
        simp only [ups, if_pos hb, List.getElem_cons_succ]
        have := ih k (by simp only [Up]; omega) (by simpa using h)
        split <;> rename_i h2
        · rfl
        · rw [if_neg h2] at this; omega
      · omega
theorem up_succ {l : List UInt8} {k : Nat} (hk : Up l k) (h : k < l.length) (hb : 128 ≤ (l[k]).toNat) : Up l (k + 1) := by
  induction l generalizing k with
  | nil => simp at h
  | cons b r ih =>
    cases k with
    | zero => simp only [List.getElem_cons_zero] at hb; simp only [Up, ups, if_pos hb]; omega
    | succ k =>
      simp only [Up, ups] at hk ⊢
      split at hk
      · rename_i hb2
        rw [if_pos hb2]
        have := ih (k := k) (by simp only [Up]; omega) (by simpa using h) (by simpa using hb)
        simp only [Up] at this; omega
      · omega
theorem ups_at {l : List UInt8} {k : Nat} (hk : Up l k) (h : k < l.length) (hb : (l[k]).toNat < 128) : ups l = k := by
  rw [ups_of l k hk h, if_neg (by omega)]
theorem ups_end {l : List UInt8} {k : Nat} (hk : Up l k) (h : k = l.length) : ups l = k := by
  have := ups_le l; simp only [Up] at hk; omega
theorem rd_end {l : List UInt8} {k : Nat} (hk : Up l k) (h : k = l.length) (h10 : k < 10) : rd l = (0, 0, 10) := by
  have := ups_end hk h
  simp only [rd, this]; rw [if_pos ⟨h10, h⟩]
theorem rd_far {l : List UInt8} {k : Nat} (hk : Up l k) (h10 : 10 ≤ k) : rd l = (0, 0, 8) := by
  simp only [Up] at hk
  simp only [rd]; rw [if_neg (by omega), if_pos (by omega)]
theorem rd_at {l : List UInt8} {k : Nat} (hk : Up l k) (h : k < l.length) (h10 : k < 10) (hb : (l[k]).toNat < 128) :
    rd l = if (l[k]).toNat = 0 ∧ 1 ≤ k then (0, 0, 8) else if k = 9 ∧ 1 < (l[k]).toNat then (0, 0, 8) else (val (l.take (k + 1)), k + 1, 0) := by
  have hu := ups_at hk h hb
  have hg : (l[k]?).getD 0 = l[k] := by simp [h]
  simp only [rd, hu, hg]
  rw [if_neg (by omega), if_neg (by omega)]
theorem val_step {l : List UInt8} {k : Nat} (h : k < l.length) : val (l.take (k + 1)) = val (l.take k) + 128 ^ k * ((l[k]).toNat % 128) := by
  rw [val_take_succ l k h]; simp [h]
theorem val_take_lt (l : List UInt8) (k : Nat) : val (l.take k) < 128 ^ k := by
  have h := val_lt (l.take k)
  refine Nat.lt_of_lt_of_le h (Nat.pow_le_pow_right (by omega) (by simp; omega))
/-- The document's reader: the bytes' number, going round, has these bytes just where the bytes are in form. -/
theorem rd_ref {l : List UInt8} {k : Nat} (hk : Up l k) (h : k < l.length) (h10 : k < 10) (hb : (l[k]).toNat < 128) :
    (leb (val (l.take (k + 1)) % 18446744073709551616) = l.take (k + 1) → rd l = (val (l.take (k + 1)) % 18446744073709551616, k + 1, 0)) ∧
    (leb (val (l.take (k + 1)) % 18446744073709551616) ≠ l.take (k + 1) → rd l = (0, 0, 8)) := by
  have hr := rd_at hk h h10 hb
  constructor
  · intro e
    have h2 := rd_leb (val (l.take (k + 1)) % 18446744073709551616) (by omega) (l.drop (k + 1))
    rw [e, List.take_append_drop] at h2
    rw [h2]; simp; omega
  · intro e
    rw [hr]
    split
    · rfl
    · split
      · rfl
      · rename_i h1 h2
        exfalso
        have h3 : rd l = (val (l.take (k + 1)), k + 1, 0) := by rw [hr, if_neg h1, if_neg h2]
        obtain ⟨_, h5, h6, _⟩ := rd_ok h3
        rw [Nat.mod_eq_of_lt h6] at e
        exact e h5
theorem val_drop {l : List UInt8} {i : Nat} (h : i < l.length) : val (l.drop i) = (l[i]).toNat % 128 + 128 * val (l.drop (i + 1)) := by
  rw [List.drop_eq_getElem_cons h]; rfl
end Num
end Go.Proofs.Ytgdgonmhgpflcaa


/- The walks of layer 1 (numbers as bytes), the program's and the document's: each is what the plain terms say. No condition but that a number fits its kind. -/
namespace Go.Proofs.Ytgdgonmhgpflcaa
open Go.RowKit

theorem info_u8 : Info Try.prog 5 (.int .u8 0) 1 1 := by unfold Info; kernel_rfl
def gB (l : List UInt8) : List Value := l.map fun b => .int .u8 b.toNat
/-- A number that fits 64 bits. -/
def U64 (x : Int) : Prop := 0 ≤ x ∧ x ≤ 18446744073709551615
def I64 (x : Int) : Prop := -9223372036854775808 ≤ x ∧ x ≤ 9223372036854775807

theorem or128 (y : Int) (h : 0 ≤ y) : bits .or .u8 (y % 256) 128 = ((UInt8.ofNat (y.toNat % 128 + 128)).toNat : Int) := by
  rw [Num.ofNat_toNat _ (by omega)]
  have e := u8_or (y % 256) 128 (by omega) (by omega) (by omega) (by omega)
  rw [e]
  have h1 : (y % 256).toNat = y.toNat % 256 := by omega
  rw [h1]
  have : ∀ n : Nat, n < 256 → n ||| (128 : Int).toNat = n % 128 + 128 := by decide +kernel
  rw [this _ (by omega)]
  omega
/-- What the loop of Uint keeps. -/
def UintRel (B : Nat) (x : Int) (w : World) (u v : Value) (wr : World) : Prop :=
  ∃ (l : List UInt8) (y : Int), 0 ≤ y ∧ y ≤ x ∧ u = .int .u64 y ∧ l.length + (Num.leb y.toNat).length = (Num.leb x.toNat).length ∧ l ++ Num.leb y.toNat = Num.leb x.toNat ∧ wr.ownsRow B 5 1 v l.length (gB l) ∧ Below B w wr
theorem uint_step {l : List UInt8} {x y : Int} (hy : 128 ≤ y) (h : l ++ Num.leb y.toNat = Num.leb x.toNat) :
    (l ++ [UInt8.ofNat (y.toNat % 128 + 128)]) ++ Num.leb (y / 128).toNat = Num.leb x.toNat := by
  rw [← h, Num.leb_ge y.toNat (by omega)]
  have : (y / 128).toNat = y.toNat / 128 := by omega
  rw [this]; simp
theorem uint_last {l : List UInt8} {x y : Int} (h0 : 0 ≤ y) (hy : y < 128) (h : l ++ Num.leb y.toNat = Num.leb x.toNat) : l ++ [UInt8.ofNat y.toNat] = Num.leb x.toNat := by
  rw [← h, Num.leb_lt y.toNat (by omega)]

set_option maxHeartbeats 400000 in
theorem uint_any (x : Int) (hx : U64 x) (w : World) : Calls Try.prog 76 #[.int .u64 x] w fun e w' => e = .returned (.string (Num.lebS x)) ∧ Below w.heap.size w w' := by
  have h0 : 0 ≤ x := hx.1
  have h10 : (Num.leb x.toNat).length ≤ 10 := Num.leb_len10 _ (by have := hx.2; omega)
  clear hx
  go_enter Try.func76, Try.ntmps76
  go_wp2_with fail
  go_loopw [0, 3] (fun u v wr => UintRel w.heap.size x w u v wr) (fun u v _ => (intOf u).toNat)
  case atStart => exact ⟨[], x, h0, Int.le_refl _, rfl, by simp, by simp, World.ownsRow_nil _ _ _ _, Below.refl _ _⟩
  case round =>
    obtain ⟨l, y, hy, hyx, rfl, hk, hl, hown, hbel⟩ := hrel
    have hs := hbel.size
    have HL := Lib.hid hl
    clear hl
    by_cases hge : 128 ≤ y
    · go_wp2_with (at_builtin; refine wpl_append_one rfl rfl rfl rfl Try.underlying175 info_u8 rfl rfl hown ?c1 (by decide) hs ?_)
      case c1 => omega
      intro v' w1 hown1 hb1
      go_wp2
      go_roundw
      case rel =>
        refine ⟨l ++ [UInt8.ofNat (y.toNat % 128 + 128)], y / 128, by omega, by omega, rfl, ?_, uint_step hge HL.out, ?_, hbel.trans hb1⟩
        · have := congrArg List.length (uint_step hge HL.out)
          simp only [List.length_append, List.length_cons, List.length_nil] at this ⊢; omega
        · rw [or128 y hy] at hown1
          simpa [gB] using hown1
      case measure => simp [intOf]; omega
    · go_wp2_with (first | (at_builtin; refine wpl_append_one rfl rfl rfl rfl Try.underlying175 info_u8 rfl rfl hown ?c1 (by decide) hs ?_))
      case c1 => omega
      intro v' w1 hown1 hb1
      have e : y = ((UInt8.ofNat y.toNat).toNat : Int) := by rw [Num.ofNat_toNat _ (by omega)]; omega
      rw [congrArg (Value.int .u8) e] at hown1
      have hown2 : w1.ownsRow w.heap.size 5 1 v' (l.length + 1) ((Num.leb x.toNat).map fun b => .int .u8 b.toNat) := by
        rw [← uint_last hy (by omega) HL.out]; simpa [gB] using hown1
      clear hown1 e
      go_wp2_with (refine wpl_bytes_string (Num.leb x.toNat) rfl rfl rfl Try.underlying175 Try.underlying5 Try.underlying9 hown2 ?_)
      go_ret
      exact ⟨rfl, hbel.trans hb1⟩

/-! ### Zig, Zag, the program's and the document's -/
theorem zig_bits (x : Int) (h : I64 x) : bits .xor .u64 (IntKind.u64.wrap (IntKind.u64.wrap x * 2)) (IntKind.u64.wrap (x / 9223372036854775808)) = Num.zig x := by
  obtain ⟨h1, h2⟩ := h
  unfold Num.zig
  by_cases h0 : 0 ≤ x
  · rw [if_pos h0, IntKind.wrap_u64, IntKind.wrap_u64, IntKind.wrap_u64, u64_xor _ _ (by omega) (by omega) (by omega) (by omega)]
    have e : (x / 9223372036854775808 % 18446744073709551616).toNat = 0 := by omega
    rw [e, Nat.xor_zero]; omega
  · rw [if_neg h0, IntKind.wrap_u64, IntKind.wrap_u64, IntKind.wrap_u64, u64_xor _ _ (by omega) (by omega) (by omega) (by omega)]
    have e : (x / 9223372036854775808 % 18446744073709551616).toNat = 2 ^ 64 - 1 := by omega
    rw [e]
    have hx : ∀ a : Nat, a < 2 ^ 64 → a ^^^ (2 ^ 64 - 1) = 2 ^ 64 - 1 - a := by
      intro a ha
      have := BitVec.toNat_not (x := BitVec.ofNat 64 a)
      rw [← BitVec.xor_allOnes] at this
      simp only [BitVec.toNat_xor, BitVec.toNat_ofNat, BitVec.toNat_allOnes, Nat.mod_eq_of_lt ha] at this
      exact this
    rw [hx _ (by omega)]
    omega
theorem zag_bits (x : Int) (h : U64 x) : bits .xor .i64 (wrap64 (x / 2)) (wrap64 (-wrap64 (bits .and .u64 x 1))) = Num.zag x := by
  obtain ⟨h1, h2⟩ := h
  have ha : bits .and .u64 x 1 = x % 2 := by
    rw [u64_and x 1 h1 (by omega) (by omega) (by omega)]
    have : (x.toNat &&& (1 : Int).toNat) = x.toNat % 2 := Nat.and_two_pow_sub_one_eq_mod x.toNat 1
    rw [this]; omega
  have hw : wrap64 (x / 2) = x / 2 := by unfold wrap64; omega
  rw [ha, hw]
  unfold Num.zag
  have hk : ∀ y : Int, 0 ≤ y → y ≤ 9223372036854775807 → bits .xor .i64 y 0 = y ∧ bits .xor .i64 y (-1) = -y - 1 := by
    intro y hy1 hy2
    have b1 : (BitVec.ofInt 64 y).toNat = y.toNat := by rw [BitVec.toNat_ofInt]; omega
    constructor
    · have e : (BitVec.ofInt 64 y ^^^ BitVec.ofInt 64 0) = BitVec.ofInt 64 y := by simp
      show IntKind.i64.wrap ((BitVec.ofInt 64 y ^^^ BitVec.ofInt 64 0).toNat : Int) = y
      rw [e, IntKind.wrap_i64, b1]; omega
    · have e : (BitVec.ofInt 64 y ^^^ BitVec.ofInt 64 (-1)) = ~~~ (BitVec.ofInt 64 y) := by
        have : BitVec.ofInt 64 (-1) = BitVec.allOnes 64 := by decide
        rw [this, BitVec.xor_allOnes]
      show IntKind.i64.wrap ((BitVec.ofInt 64 y ^^^ BitVec.ofInt 64 (-1)).toNat : Int) = -y - 1
      rw [e, IntKind.wrap_i64, BitVec.toNat_not, b1]; omega
  by_cases h0 : x % 2 = 0
  · rw [if_pos h0, h0]
    have : wrap64 (-wrap64 0) = 0 := by unfold wrap64; omega
    rw [this]; exact (hk _ (by omega) (by omega)).1
  · rw [if_neg h0, show x % 2 = 1 from by omega]
    have : wrap64 (-wrap64 1) = -1 := by unfold wrap64; omega
    rw [this]; exact (hk _ (by omega) (by omega)).2
theorem ret1 {k : IntKind} {a b : Int} (h : a = b) : Ending.returned (.int k a) = .returned (.int k b) := by rw [h]
/-- A whole number's bytes, as text. -/
def intS (x : Int) : ByteArray := Num.lebS (Num.zig x)
theorem U64_zig {x : Int} (h : I64 x) : U64 (Num.zig x) := Num.zig_range x h.1 h.2
theorem I64_zag {x : Int} (h : U64 x) : I64 (Num.zag x) := Num.zag_range x h.1 h.2
/-! ### The document's Uint -/
theorem lebS_size {x : Int} (h : x ≤ 18446744073709551615) : (Num.lebS x).size ≤ 10 := by
  have := Num.leb_len10 x.toNat (by omega)
  simpa [Num.lebS, ByteArray.size] using this
def hiByte (x : Int) : UInt8 := UInt8.ofNat (x.toNat % 128 + 128)
theorem ruint_step {x : Int} (h : 128 ≤ x) : (⟨#[hiByte x]⟩ : ByteArray) ++ Num.lebS (x / 128) = Num.lebS x := by
  unfold Num.lebS hiByte
  rw [Num.leb_ge x.toNat (by omega)]
  have : (x / 128).toNat = x.toNat / 128 := by omega
  rw [this]
  apply ByteArray.ext
  simp
theorem ruint_last {x : Int} (h0 : 0 ≤ x) (h : x < 128) : (⟨#[UInt8.ofNat x.toNat]⟩ : ByteArray) = Num.lebS x := by
  unfold Num.lebS; rw [Num.leb_lt x.toNat (by omega)]

theorem conv1 (W : World) (b : Nat) (v : Int) (h : W.cell? ⟨b, 0, none⟩ = some (.int .u8 v)) : (convert 175 9 (.slice (some ⟨b, 0, none⟩) 1 1)).run Try.prog W = .ok (.string ⟨#[UInt8.ofNat v.toNat]⟩) W :=
  run_conv1 Try.underlying175 Try.underlying5 Try.underlying9 W b v h
attribute [local go_sem] conv1
set_option maxHeartbeats 400000 in
theorem ruint_ind (n : Nat) : ∀ (x : Int) (_ : 0 ≤ x ∧ x ≤ 18446744073709551615) (_ : x < n) (w : World), Calls Try.prog 90 #[.int .u64 x] w fun e w' => e = .returned (.string (Num.lebS x)) ∧ Below w.heap.size w w' := by
  induction n with
  | zero => intro x hx hn; omega
  | succ n ih =>
    intro x hx hn w
    have hx0 := hx.1
    have hx1 := hx.2
    by_cases hge : x < 128
    · have hr := Lib.hid (ruint_last hx0 hge)
      clear hn ih hx
      go_enter Try.func90, Try.ntmps90
      go_wp2_with fail
      go_ret
      exact ⟨by rw [← hr.out]; rfl, (Below.refl _ _).alloc (Nat.le_refl _) _⟩
    · have ih2 := Lib.hid ih
      have hb1 : x / 128 < n := by omega
      have hb2 : x / 128 ≤ 18446744073709551615 := by omega
      have hb3 : 0 ≤ x / 128 := by omega
      have e1 : IntKind.u64.wrap (x.tdiv 128) = x / 128 := by rw [IntKind.wrap_u64, Int.tdiv_eq_ediv_of_nonneg hx0]; omega
      have e2 : UInt8.ofNat (IntKind.u8.wrap (IntKind.u64.wrap (128 + x.tmod 128))).toNat = hiByte x := by
        unfold hiByte; congr 1; rw [IntKind.wrap_u8, IntKind.wrap_u64, Int.tmod_eq_emod_of_nonneg hx0]; omega
      have hr := Lib.hid (ruint_step (x := x) (by omega))
      have hsz : (Num.lebS (x / 128)).size ≤ 10 := lebS_size (by omega)
      clear hn hx ih
      go_enter Try.func90, Try.ntmps90
      go_wp2_with fail
      go_region_with (go_at_call 90; ((with_reducible refine (ih2.out _ ⟨hb3, hb2⟩ hb1 _).mono ?_); rintro e w' ⟨rfl, hb⟩; obtain ⟨hc, hf⟩ := bcell hb))
      all_goals go_wp2
      all_goals go_ret
      all_goals refine ⟨congrArg (fun s => Ending.returned (Value.string s)) hr.out, ?_⟩
      · exact (((Below.refl _ _).alloc (Nat.le_refl _) _).drew).trans (hb.mono (by simp))
      · exact (((Below.refl _ _).alloc (Nat.le_refl _) _).drew).trans (hb.mono (by simp))
      · exact ((Below.refl _ _).drew.trans hb).alloc hb.size _
theorem ruint_any (x : Int) (hx : U64 x) (w : World) : Calls Try.prog 90 #[.int .u64 x] w fun e w' => e = .returned (.string (Num.lebS x)) ∧ Below w.heap.size w w' :=
  ruint_ind (x.toNat + 1) x hx (by have := hx.1; omega) w
end Go.Proofs.Ytgdgonmhgpflcaa


/- The walks of layer 1's readers and of how many bytes a number has. No condition but that a text is no longer than Go lets it be. -/
namespace Go.Proofs.Ytgdgonmhgpflcaa
open Go.RowKit
set_option linter.unusedVariables false

theorem bl (s : ByteArray) : s.data.toList.length = s.size := rfl
theorem bat (s : ByteArray) (k : Nat) (h : k < s.size) : s.data.toList[k]'(by rw [bl]; exact h) = s[k] := rfl
/-- What is read of a text: the number, how many bytes, the fault. -/
def rdS (s : ByteArray) : Nat × Nat × Nat := Num.rd s.data.toList
theorem read_end {s : ByteArray} {k : Nat} (h : Num.Up s.data.toList k) (hk : k ≤ s.size) (h1 : ¬ k < s.size) (h2 : k < 10) : rdS s = (0, 0, 10) := Num.rd_end h (by rw [bl]; omega) h2
theorem read_far {s : ByteArray} {k : Nat} (h : Num.Up s.data.toList k) (h2 : ¬ k < 10) : rdS s = (0, 0, 8) := Num.rd_far h (by omega)
theorem read_zero {s : ByteArray} {k : Nat} (h : Num.Up s.data.toList k) (h1 : k < s.size) (h2 : k < 10) (h3 : s[k].toNat < 128) (h4 : s[k].toNat = 0) (h5 : 1 ≤ k) : rdS s = (0, 0, 8) := by
  unfold rdS; rw [Num.rd_at h h1 h2 (by rw [bat s k h1]; exact h3), if_pos ⟨by rw [bat s k h1]; exact h4, h5⟩]
theorem read_over {s : ByteArray} {k : Nat} (h : Num.Up s.data.toList k) (h1 : k < s.size) (h2 : k < 10) (h3 : s[k].toNat < 128) (h4 : k = 9) (h5 : 1 < s[k].toNat) : rdS s = (0, 0, 8) := by
  unfold rdS; rw [Num.rd_at h h1 h2 (by rw [bat s k h1]; exact h3), if_neg (by rw [bat s k h1]; omega), if_pos ⟨h4, by rw [bat s k h1]; exact h5⟩]
theorem read_ok {s : ByteArray} {k : Nat} (h : Num.Up s.data.toList k) (h1 : k < s.size) (h2 : k < 10) (h3 : s[k].toNat < 128) (h4 : ¬ (s[k].toNat = 0 ∧ 1 ≤ k)) (h5 : ¬ (k = 9 ∧ 1 < s[k].toNat)) : rdS s = (Num.val (s.data.toList.take (k + 1)), k + 1, 0) := by
  unfold rdS; rw [Num.rd_at h h1 h2 (by rw [bat s k h1]; exact h3), if_neg (by rw [bat s k h1]; exact h4), if_neg (by rw [bat s k h1]; exact h5)]
theorem read_next {s : ByteArray} {k : Nat} (h : Num.Up s.data.toList k) (h1 : k < s.size) (h3 : 128 ≤ s[k].toNat) : Num.Up s.data.toList (k + 1) := Num.up_succ h h1 (by rw [bat s k h1]; exact h3)
/-- What the program's reader adds. -/
theorem read_bits {s : ByteArray} {k : Nat} (h1 : k < s.size) (h2 : k < 10) (h5 : k = 9 → s[k].toNat % 128 ≤ 1) :
    bits .or .u64 (Num.val (s.data.toList.take k) : Nat) (IntKind.u64.wrap (IntKind.u64.wrap (bits .and .u8 (s[k].toNat : Int) 127) * 2 ^ (7 * k))) = (Num.val (s.data.toList.take (k + 1)) : Nat) := by
  have hv := Num.val_take_lt s.data.toList k
  have hb := s[k].toNat_lt
  have ha : bits .and .u8 (s[k].toNat : Int) 127 = ((s[k].toNat % 128 : Nat) : Int) := by
    have h127 : (127 : Int) = ((127 : Nat) : Int) := rfl
    rw [h127, u8_and_nat s[k].toNat 127 hb (by omega)]
    have : s[k].toNat &&& 127 = s[k].toNat % 128 := Nat.and_two_pow_sub_one_eq_mod s[k].toNat 7
    rw [this]
  rw [ha, IntKind.wrap_u64, IntKind.wrap_u64]
  have hp : (128 : Nat) ^ k = 2 ^ (7 * k) := by rw [Nat.pow_mul]
  have e9 : (128 : Nat) ^ 9 = 9223372036854775808 := by decide
  have hm : (s[k].toNat % 128) * 128 ^ k < 18446744073709551616 := by
    by_cases h9 : k = 9
    · subst h9; rw [e9]; have := h5 rfl; omega
    · have h6 : (128 : Nat) ^ k * 128 ≤ 128 ^ 9 := by rw [← Nat.pow_succ]; exact Nat.pow_le_pow_right (by omega) (by omega)
      have h7 : (s[k].toNat % 128) * 128 ^ k ≤ 127 * 128 ^ k := Nat.mul_le_mul_right _ (by omega)
      omega
  have hv2 : 128 ^ k ≤ 9223372036854775808 := by rw [← e9]; exact Nat.pow_le_pow_right (by omega) (by omega)
  have ew : (((s[k].toNat % 128 : Nat) : Int) % 18446744073709551616 * 2 ^ (7 * k)) % 18446744073709551616 = (((s[k].toNat % 128) * 128 ^ k : Nat) : Int) := by
    have e1 : ((s[k].toNat % 128 : Nat) : Int) % 18446744073709551616 = ((s[k].toNat % 128 : Nat) : Int) := by omega
    have e2 : ((2 : Int) ^ (7 * k)) = ((128 ^ k : Nat) : Int) := by rw [hp]; simp
    rw [e1, e2, ← Int.natCast_mul]
    omega
  rw [ew, u64_or_nat _ _ (by omega) hm, Nat.or_comm]
  rw [nat_join (7 * k) ((s[k].toNat % 128) * 128 ^ k) _ (by rw [hp]; exact Nat.mul_mod_left _ _) (by rw [← hp]; exact hv)]
  rw [Num.val_step (l := s.data.toList) (k := k) h1, bat s k h1, Nat.mul_comm]
  congr 1; omega
/-- What the program's reader finds at its loop's head. -/
def ReadRel (s : ByteArray) (x n last : Value) : Prop :=
  ∃ k : Nat, k ≤ s.size ∧ k ≤ 10 ∧ n = .int .i64 k ∧ Num.Up s.data.toList k ∧ (∃ y : Nat, x = .int .u64 y ∧ (k < 10 → y = Num.val (s.data.toList.take k))) ∧ ∃ c : Int, 128 ≤ c ∧ last = .int .u8 c
theorem ret3 {a b c : Nat} {a' b' c' : Int} (h1 : a' = a) (h2 : b' = b) (h3 : c' = c) : Ending.returned (.tuple #[.int .u64 a', .int .i64 b', .int .i64 c']) = .returned (.tuple #[.int .u64 a, .int .i64 b, .int .i64 c]) := by rw [h1, h2, h3]
def ReadPost (s : ByteArray) (w : World) (e : Ending) (w' : World) : Prop :=
  e = .returned (.tuple #[.int .u64 ((rdS s).1 : Nat), .int .i64 ((rdS s).2.1 : Nat), .int .i64 ((rdS s).2.2 : Nat)]) ∧ w = w'
theorem read_post {s : ByteArray} {w : World} {a b c : Nat} {a' b' c' : Int} (h : rdS s = (a, b, c)) (h1 : a' = a) (h2 : b' = b) (h3 : c' = c) : ReadPost s w (.returned (.tuple #[.int .u64 a', .int .i64 b', .int .i64 c'])) w := by
  unfold ReadPost; rw [h, h1, h2, h3]; exact ⟨rfl, rfl⟩
set_option maxRecDepth 100000 in
set_option maxHeartbeats 1000000 in
theorem read_raw (s : ByteArray) (hs : s.size ≤ maxLen) (w : World) : Calls Try.prog 98 #[.string s] w (ReadPost s w) := by
  unfold maxLen at hs
  go_enter Try.func98, Try.ntmps98
  go_wp2_with fail
  go_step3
  go_wp2_with fail
  go_step3
  go_wp2_with fail
  go_loop [2, 3, 5] (fun x n last => ReadRel s x n last) (fun _ n _ => 10 - (intOf n).toNat)
  case atStart => exact ⟨0, Nat.zero_le _, Nat.zero_le _, rfl, Num.up_zero _, ⟨0, rfl, fun _ => rfl⟩, 128, by omega, rfl⟩
  case round =>
    obtain ⟨k, hk, hk10, rfl, hup, ⟨y, rfl, hy⟩, c, hc, rfl⟩ := hrel
    have HUP := Lib.hid hup
    clear hup
    by_cases hlt : k < s.size
    · by_cases h10 : k < 10
      · obtain rfl := hy h10
        by_cases hb : 128 ≤ s[k].toNat
        · have H1 := Lib.hid (read_next HUP.out hlt hb)
          have H2 := Lib.hid (read_bits (s := s) hlt h10)
          clear hy
          go_wp2_with fail
          go_round
          case rel =>
            refine ⟨k + 1, by omega, by omega, by go_num, H1.out, ⟨(bits .or .u64 (Num.val (s.data.toList.take k) : Nat) (IntKind.u64.wrap (IntKind.u64.wrap (bits .and .u8 (s[k].toNat : Int) 127) * 2 ^ (7 * k)))).toNat, ?_, fun h => ?_⟩, _, by omega, rfl⟩
            · have hw : 0 ≤ bits .or .u64 (Num.val (s.data.toList.take k) : Nat) (IntKind.u64.wrap (IntKind.u64.wrap (bits .and .u8 (s[k].toNat : Int) 127) * 2 ^ (7 * k))) := by
                simp only [bits]; rw [IntKind.wrap_u64]; omega
              rw [Int.toNat_of_nonneg hw]
            · rw [H2.out (by omega)]; rfl
          case measure => simp [intOf]; omega
        · by_cases hz : s[k].toNat = 0 ∧ 1 ≤ k
          · have H1 := Lib.hid (read_zero HUP.out hlt h10 (by omega) hz.1 hz.2)
            obtain ⟨hz1, hz2⟩ := hz
            clear hy
            go_wp2_with fail
            all_goals (go_ret3; exact read_post H1.out rfl rfl rfl)
          · by_cases ho : k = 9 ∧ 1 < s[k].toNat
            · have H1 := Lib.hid (read_over HUP.out hlt h10 (by omega) ho.1 ho.2)
              have ho1 : 9 ≤ k := by omega
              have ho2 : 1 < s[k].toNat := ho.2
              clear hy hz ho
              go_wp2_with fail
              all_goals (go_ret3; exact read_post H1.out rfl rfl rfl)
            · have H1 := Lib.hid (read_ok HUP.out hlt h10 (by omega) hz ho)
              have H2 := Lib.hid (read_bits (s := s) hlt h10 (by omega))
              by_cases h0 : s[k].toNat = 0
              · have H3 : Hid (bits .or .u64 (Num.val (s.data.toList.take k) : Nat) (IntKind.u64.wrap (IntKind.u64.wrap (bits .and .u8 0 127) * 2 ^ (7 * k))) = (Num.val (s.data.toList.take (k + 1)) : Nat)) := by
                  refine Lib.hid ?_
                  have h := H2.out
                  rw [h0] at h; exact h
                have hk0 : k < 1 := by omega
                clear hy hz ho
                go_wp2_with fail
                all_goals (go_ret3; exact read_post H1.out H3.out (by omega) rfl)
              · have hz' : k = 9 → s[k].toNat ≤ 1 := by omega
                clear hy hz ho
                go_wp2_with fail
                all_goals (go_ret3; exact read_post H1.out H2.out (by omega) rfl)
      · have H1 := Lib.hid (read_far HUP.out h10)
        clear hy
        go_wp2_with fail
        all_goals (go_ret3; exact read_post H1.out rfl rfl rfl)
    · by_cases h10 : k < 10
      · have H1 := Lib.hid (read_end HUP.out hk hlt h10)
        clear hy
        go_wp2_with fail
        all_goals (go_ret3; exact read_post H1.out rfl rfl rfl)
      · have H1 := Lib.hid (read_far HUP.out h10)
        clear hy
        go_wp2_with fail
        all_goals (go_ret3; exact read_post H1.out rfl rfl rfl)
end Go.Proofs.Ytgdgonmhgpflcaa
