import Derived.Orders
import Derived.Tactics
import Derived.WalkKit
import Derived.WalkSpells
import Derived.WalkLawsBesides
import Derived.Laws.IdiomStrings
import Derived.Lib.Hide
import Derived.RegionTactic
import Derived.Deep.RegionWith
import Derived.Deep.QuietTactic
import Derived.BigQuiet
import Derived.Deep.LoopGhost
import Derived.Deep.DeepFit
import Derived.Deep.DeepCutAuto
import Derived.Deep.RegionLaw
import Derived.Deep.RegionHeld3
import Derived.Below
import Derived.RowKit

/- A region that draws its order may be walked in the text's order, where of any two operations that may be exchanged one only reckons. No condition. -/
namespace Go.Proofs.YtlahficmkfgooaaGreat
namespace Reg
set_option linter.unusedVariables false

/-! ### Computations that neither read nor turn the world -/
/-- It yields one value in every world, or none in any. -/
def Calm {α : Type} (P : Program) (s : Sem α) : Prop := (∃ v, ∀ w, s.run P w = .ok v w) ∨ (∀ w, ∃ h w', s.run P w = .halt h w')
theorem run_bind' {α β : Type} (P : Program) (s : Sem α) (f : α → Sem β) (w : World) : (s >>= f).run P w = (match s.run P w with | .ok v w' => (f v).run P w' | .halt h w' => .halt h w') := by
  rw [Sem.run_bind]; cases s.run P w <;> rfl
section
variable {P : Program}
theorem Calm.pure {α : Type} (v : α) : Calm P (Pure.pure v : Sem α) := .inl ⟨v, fun _ => rfl⟩
theorem Calm.bind {α β : Type} {s : Sem α} {f : α → Sem β} (hs : Calm P s) (hf : ∀ v, Calm P (f v)) : Calm P (s >>= f) := by
  rcases hs with ⟨v, hv⟩ | hh
  · rcases hf v with ⟨u, hu⟩ | hh
    · exact .inl ⟨u, fun w => by rw [run_bind', hv w]; exact hu w⟩
    · exact .inr fun w => by rw [run_bind', hv w]; exact hh w
  · exact .inr fun w => by
      obtain ⟨h, w', e⟩ := hh w
      exact ⟨h, w', by rw [run_bind', e]⟩
theorem Calm.halt {α : Type} (h : Halt) : Calm P (Sem.halt h : Sem α) := .inr fun w => ⟨h, w, rfl⟩
theorem Calm.program : Calm P program := .inl ⟨P, fun _ => rfl⟩
theorem Calm.stuck {α : Type} (s : String) : Calm P (Go.stuck s : Sem α) := .halt _
theorem Calm.unsupported {α : Type} (u : Unsupported) : Calm P (Go.unsupported u : Sem α) := .halt _
theorem Calm.goPanic {α : Type} (v : Value) : Calm P (Go.goPanic v : Sem α) := .halt _
theorem panic_halts {α : Type} (v : Value) (w : World) : ∃ h w', (Go.goPanic v : Sem α).run P w = .halt h w' := ⟨_, _, rfl⟩
theorem Calm.bounds {α : Type} (x y : Int) (s : Bool) (c : BoundsCode) : Calm P (Go.runtimePanic (.bounds x y s c) : Sem α) := .inr fun w => ⟨_, _, rfl⟩
theorem Calm.errorPanic {α : Type} (m : String) : Calm P (Go.runtimePanic (.error m) : Sem α) := .inr fun w => ⟨_, _, rfl⟩
theorem Calm.nilPanic {α : Type} : Calm P (Go.runtimePanic .nilDeref : Sem α) := .inr fun w => ⟨_, _, rfl⟩
theorem bounds_halts {α : Type} (k : IntKind) (x y : Int) (c : BoundsCode) (w : World) : ∃ h w', (Go.boundsPanic k x y c : Sem α).run P w = .halt h w' := by
  unfold Go.boundsPanic
  dsimp only
  split
  · rw [run_bind']
    split
    · exact ⟨_, _, rfl⟩
    · exact ⟨_, _, rfl⟩
  · exact ⟨_, _, rfl⟩
theorem Calm.boundsPanic {α : Type} (k : IntKind) (x y : Int) (c : BoundsCode) : Calm P (Go.boundsPanic k x y c : Sem α) := .inr (bounds_halts k x y c)
theorem Calm.typeInfo (t : TypeId) : Calm P (Go.typeInfo t) := by
  unfold Go.typeInfo
  refine Calm.bind Calm.program fun p => ?_
  split <;> first | exact Calm.pure _ | exact Calm.stuck _
theorem Calm.underlying (t : TypeId) : Calm P (Go.underlying t) := by
  unfold Go.underlying
  refine Calm.bind Calm.program fun p => ?_
  split <;> first | exact Calm.pure _ | exact Calm.stuck _
theorem Calm.sizeOf (t : TypeId) : Calm P (Go.sizeOf t) := Calm.bind (Calm.typeInfo t) fun _ => Calm.pure _
theorem Calm.isAgg (t : TypeId) : Calm P (Go.isAgg t) := Calm.bind (Calm.underlying t) fun _ => by split <;> exact Calm.pure _
theorem Calm.asIntOf (v : Value) : Calm P (Go.asIntOf v) := by
  unfold Go.asIntOf; split <;> first | exact Calm.pure _ | exact Calm.halt _
theorem Calm.asBool (v : Value) : Calm P (Go.asBool v) := by
  unfold Go.asBool; split <;> first | exact Calm.pure _ | exact Calm.halt _
theorem Calm.asAgg (v : Value) : Calm P (Go.asAgg v) := by
  unfold Go.asAgg; split <;> first | exact Calm.pure _ | exact Calm.halt _
theorem Calm.asAddr (v : Value) : Calm P (Go.asAddr v) := by
  unfold Go.asAddr; split <;> first | exact Calm.pure _ | exact Calm.halt _ | exact Calm.nilPanic
theorem Calm.sureAddr (v : Value) : Calm P (Go.Instr.sureAddr v) := by
  unfold Go.Instr.sureAddr; split <;> first | exact Calm.pure _ | exact Calm.halt _
theorem Calm.ite {α : Type} {c : Prop} [Decidable c] {s t : Sem α} (hs : Calm P s) (ht : Calm P t) : Calm P (if c then s else t) := by split <;> assumption
theorem Calm.part (t : TypeId) (cs : Array Value) (off : Nat) : Calm P (Go.part t cs off) := by
  unfold Go.part
  repeat' (first | exact Calm.pure _ | exact Calm.stuck _ | exact Calm.unsupported _ | exact Calm.boundsPanic _ _ _ _ | exact Calm.nilPanic | exact Calm.errorPanic _ | exact Calm.underlying _ | exact Calm.sizeOf _ | exact Calm.isAgg _ | exact Calm.asIntOf _ | exact Calm.asBool _ | exact Calm.asAgg _ | exact Calm.asAddr _ | exact Calm.sureAddr _ | exact Calm.program | refine Calm.bind ?_ (fun _ => ?_) | split | dsimp only)
theorem Calm.extract (t : Value) (i : Nat) : Calm P (Go.Instr.extract t i) := by
  unfold Go.Instr.extract
  repeat' (first | exact Calm.pure _ | exact Calm.stuck _ | exact Calm.unsupported _ | exact Calm.boundsPanic _ _ _ _ | exact Calm.nilPanic | exact Calm.errorPanic _ | exact Calm.underlying _ | exact Calm.sizeOf _ | exact Calm.isAgg _ | exact Calm.asIntOf _ | exact Calm.asBool _ | exact Calm.asAgg _ | exact Calm.asAddr _ | exact Calm.sureAddr _ | exact Calm.program | refine Calm.bind ?_ (fun _ => ?_) | split | dsimp only)
theorem Calm.indexAt (t : TypeId) (x ix : Value) : Calm P (Go.Instr.indexAt t x ix) := by
  unfold Go.Instr.indexAt
  repeat' (first | exact Calm.pure _ | exact Calm.stuck _ | exact Calm.unsupported _ | exact Calm.boundsPanic _ _ _ _ | exact Calm.nilPanic | exact Calm.errorPanic _ | exact Calm.underlying _ | exact Calm.sizeOf _ | exact Calm.isAgg _ | exact Calm.asIntOf _ | exact Calm.asBool _ | exact Calm.asAgg _ | exact Calm.asAddr _ | exact Calm.sureAddr _ | exact Calm.program | refine Calm.bind ?_ (fun _ => ?_) | split | dsimp only)
theorem Calm.index (t : TypeId) (x ix : Value) : Calm P (Go.Instr.index t x ix) := by
  unfold Go.Instr.index
  repeat' (first | exact Calm.pure _ | exact Calm.stuck _ | exact Calm.unsupported _ | exact Calm.boundsPanic _ _ _ _ | exact Calm.nilPanic | exact Calm.errorPanic _ | exact Calm.underlying _ | exact Calm.sizeOf _ | exact Calm.isAgg _ | exact Calm.asIntOf _ | exact Calm.asBool _ | exact Calm.asAgg _ | exact Calm.asAddr _ | exact Calm.sureAddr _ | exact Calm.part _ _ _ | exact Calm.program | refine Calm.bind ?_ (fun _ => ?_) | split | dsimp only)
theorem Calm.field (t : TypeId) (x : Value) (f : Nat) : Calm P (Go.Instr.field t x f) := by
  unfold Go.Instr.field
  repeat' (first | exact Calm.pure _ | exact Calm.stuck _ | exact Calm.unsupported _ | exact Calm.boundsPanic _ _ _ _ | exact Calm.nilPanic | exact Calm.errorPanic _ | exact Calm.underlying _ | exact Calm.sizeOf _ | exact Calm.isAgg _ | exact Calm.asIntOf _ | exact Calm.asBool _ | exact Calm.asAgg _ | exact Calm.asAddr _ | exact Calm.sureAddr _ | exact Calm.part _ _ _ | exact Calm.program | refine Calm.bind ?_ (fun _ => ?_) | split | dsimp only)
theorem Calm.sliceBound (x : Value) (y : Nat) (c : BoundsCode) : Calm P (Go.Instr.sliceBound x y c) := by
  unfold Go.Instr.sliceBound
  repeat' (first | exact Calm.pure _ | exact Calm.stuck _ | exact Calm.unsupported _ | exact Calm.boundsPanic _ _ _ _ | exact Calm.nilPanic | exact Calm.errorPanic _ | exact Calm.underlying _ | exact Calm.sizeOf _ | exact Calm.isAgg _ | exact Calm.asIntOf _ | exact Calm.asBool _ | exact Calm.asAgg _ | exact Calm.asAddr _ | exact Calm.sureAddr _ | exact Calm.program | refine Calm.bind ?_ (fun _ => ?_) | split | dsimp only)
theorem Calm.sliceBounds (b : Bool) (len cap : Nat) (lo hi mx : Option Value) : Calm P (Go.Instr.sliceBounds b len cap lo hi mx) := by
  unfold Go.Instr.sliceBounds
  repeat' (first | exact Calm.pure _ | exact Calm.stuck _ | exact Calm.unsupported _ | exact Calm.boundsPanic _ _ _ _ | exact Calm.nilPanic | exact Calm.errorPanic _ | exact Calm.underlying _ | exact Calm.sizeOf _ | exact Calm.isAgg _ | exact Calm.asIntOf _ | exact Calm.asBool _ | exact Calm.asAgg _ | exact Calm.asAddr _ | exact Calm.sureAddr _ | exact Calm.sliceBound _ _ _ | exact Calm.program | refine Calm.bind ?_ (fun _ => ?_) | split | dsimp only)
theorem Calm.slice (t : TypeId) (x : Value) (lo hi mx : Option Value) : Calm P (Go.Instr.slice t x lo hi mx) := by
  unfold Go.Instr.slice
  repeat' (first | exact Calm.pure _ | exact Calm.stuck _ | exact Calm.unsupported _ | exact Calm.boundsPanic _ _ _ _ | exact Calm.nilPanic | exact Calm.errorPanic _ | exact Calm.underlying _ | exact Calm.sizeOf _ | exact Calm.isAgg _ | exact Calm.asIntOf _ | exact Calm.asBool _ | exact Calm.asAgg _ | exact Calm.asAddr _ | exact Calm.sureAddr _ | exact Calm.sliceBounds _ _ _ _ _ _ | exact Calm.program | refine Calm.bind ?_ (fun _ => ?_) | split | dsimp only)
theorem Calm.sliceAt (t : TypeId) (x : Value) (lo hi mx : Option Value) : Calm P (Go.Instr.sliceAt t x lo hi mx) := by
  unfold Go.Instr.sliceAt
  repeat' (first | exact Calm.pure _ | exact Calm.stuck _ | exact Calm.unsupported _ | exact Calm.boundsPanic _ _ _ _ | exact Calm.nilPanic | exact Calm.errorPanic _ | exact Calm.underlying _ | exact Calm.sizeOf _ | exact Calm.isAgg _ | exact Calm.asIntOf _ | exact Calm.asBool _ | exact Calm.asAgg _ | exact Calm.asAddr _ | exact Calm.sureAddr _ | exact Calm.sliceBounds _ _ _ _ _ _ | exact Calm.slice _ _ _ _ _ | exact Calm.program | refine Calm.bind ?_ (fun _ => ?_) | split | dsimp only)
theorem Calm.intArith (op : BinOp) (k : IntKind) (a b : Int) : Calm P (Op.intArith op k a b) := by
  unfold Op.intArith; split <;> first | exact Calm.pure _ | exact Calm.stuck _
theorem Calm.intBits (op : BinOp) (k : IntKind) (a b : Int) : Calm P (Op.intBits op k a b) := by
  unfold Op.intBits; dsimp only; split <;> first | exact Calm.pure _ | exact Calm.stuck _
theorem Calm.intCmp (op : BinOp) (a b : Int) : Calm P (Op.intCmp op a b) := by
  unfold Op.intCmp; split <;> first | exact Calm.pure _ | exact Calm.stuck _
theorem Calm.intDiv (op : BinOp) (k : IntKind) (a b : Int) : Calm P (Op.intDiv op k a b) := by
  unfold Op.intDiv
  refine Calm.ite (Calm.errorPanic _) ?_
  split <;> first | exact Calm.pure _ | exact Calm.stuck _
theorem Calm.shift (op : BinOp) (k : IntKind) (a : Int) (k' : IntKind) (b : Int) : Calm P (Op.shift op k a k' b) := by
  unfold Op.shift
  refine Calm.ite (Calm.errorPanic _) ?_
  dsimp only
  split <;> first | exact Calm.pure _ | exact Calm.stuck _
theorem Calm.stringOp (op : BinOp) (a b : ByteArray) : Calm P (Op.stringOp op a b) := by
  unfold Op.stringOp; dsimp only
  split <;> first | exact Calm.pure _ | exact Calm.stuck _ | exact Calm.ite (Calm.unsupported _) (Calm.pure _)
theorem Calm.unary (op : UnOp) (x : Value) : Calm P (Op.unary op x) := by
  unfold Op.unary; split <;> first | exact Calm.pure _ | exact Calm.stuck _ | exact Calm.unsupported _ | exact Calm.intArith _ _ _ _ | exact Calm.intBits _ _ _ _
theorem Calm.binInt (op : BinOp) (t : TypeId) (k k' : IntKind) (a b : Int) : Calm P (Go.binOp op t (.int k a) (.int k' b)) := by
  cases op <;> simp only [Go.binOp] <;> first | exact Calm.shift _ _ _ _ _ | exact Calm.ite (Calm.stuck _) (Calm.intArith _ _ _ _) | exact Calm.ite (Calm.stuck _) (Calm.intDiv _ _ _ _) | exact Calm.ite (Calm.stuck _) (Calm.intBits _ _ _ _) | exact Calm.ite (Calm.stuck _) (Calm.intCmp _ _ _)
theorem Calm.binString (op : BinOp) (t : TypeId) (a b : ByteArray) : Calm P (Go.binOp op t (.string a) (.string b)) := by
  cases op <;> simp only [Go.binOp] <;> exact Calm.stringOp _ _ _
theorem Calm.eqGuardInt (op : BinOp) (t : TypeId) (x y : Operand) (k k' : IntKind) (a b : Int) : Calm P (Go.eqGuard op t x y (.int k a) (.int k' b)) := by
  unfold Go.eqGuard; repeat' (first | exact Calm.pure _ | split | dsimp only)
theorem Calm.eqGuardString (op : BinOp) (t : TypeId) (x y : Operand) (a b : ByteArray) : Calm P (Go.eqGuard op t x y (.string a) (.string b)) := by
  unfold Go.eqGuard; repeat' (first | exact Calm.pure _ | split | dsimp only)
theorem Calm.len (ts : Array TypeId) (t : TypeId) (s : ByteArray) : Calm P (Builtin.len_ ts t #[.string s]) := by
  unfold Builtin.len_
  repeat' (first | exact Calm.pure _ | exact Calm.stuck _ | exact Calm.underlying _ | refine Calm.bind ?_ (fun _ => ?_) | split | dsimp only)
  all_goals simp_all
theorem Calm.lenSlice (ts : Array TypeId) (t : TypeId) (a : Option Addr) (n c : Nat) : Calm P (Builtin.len_ ts t #[.slice a n c]) := by
  unfold Builtin.len_
  repeat' (first | exact Calm.pure _ | exact Calm.stuck _ | exact Calm.underlying _ | refine Calm.bind ?_ (fun _ => ?_) | split | dsimp only)
  all_goals simp_all
theorem Calm.maxInt (ts : Array TypeId) (t : TypeId) (k k' : IntKind) (a b : Int) : Calm P (Builtin.max_ ts t #[.int k a, .int k' b]) := .inl ⟨.int k (if b > a then b else a), fun _ => rfl⟩
theorem Calm.minInt (ts : Array TypeId) (t : TypeId) (k k' : IntKind) (a b : Int) : Calm P (Builtin.min_ ts t #[.int k a, .int k' b]) := .inl ⟨_, fun _ => rfl⟩
theorem run_und {t : TypeId} {d : TypeDesc} (h : P.underlying t = some d) (w : World) : (Go.underlying t).run P w = .ok d w := by
  unfold Go.underlying
  rw [run_bind', show (Go.program).run P w = .ok P w from rfl]
  simp only [h]; rfl
theorem run_size {t : TypeId} {i : TypeInfo} (h : P.info? t = some i) (w : World) : (Go.sizeOf t).run P w = .ok i.size w := by
  unfold Go.sizeOf Go.typeInfo
  rw [run_bind', run_bind', show (Go.program).run P w = .ok P w from rfl]
  simp only [h]; rfl
theorem Calm.convertInt (src dst : TypeId) (k j : IntKind) (n : Int) (hd : P.underlying dst = some (.int j)) : Calm P (Go.convert src dst (.int k n)) := by
  unfold Go.convert
  refine Calm.bind (Calm.underlying _) fun d => ?_
  refine .inl ⟨.int j (j.wrap n), fun w => ?_⟩
  rw [run_bind', run_und hd]
  cases d <;> rfl

/-! ### Which operations only reckon, at a frame -/
def bothInts : Value → Value → Bool
  | .int .., .int .. => true
  | .string _, .string _ => true
  | _, _ => false
def isInt : Value → Bool
  | .int .. => true
  | _ => false
def isPlace : Value → Bool
  | .pointer (some _) => true
  | _ => false
def hasLen : Value → Bool
  | .string _ => true
  | .slice .. => true
  | _ => false
def isIntT (P : Program) (t : TypeId) : Bool := match P.underlying t with | some (.int _) => true | _ => false
def fieldOk (P : Program) (s : TypeId) (f : Nat) : Bool :=
  match P.underlying s with
  | some (.struct fields) => (match fields[f]? with | some g => (match P.info? g.type with | some i => i.size != 0 | none => false) | none => false)
  | _ => false
def callKind (c : Call) : Bool :=
  match c.callee with
  | .builtin .len => true
  | .builtin .max => true
  | .builtin .min => true
  | _ => false
def callNow (c : Call) (vs : Array Value) : Bool :=
  match c.callee with
  | .builtin .len => vs.size == 1 && hasLen (vs.getD 0 undef)
  | _ => vs.size == 2 && isInt (vs.getD 0 undef) && isInt (vs.getD 1 undef)
/-- May the operation, by its form, be one that only reckons? -/
def kind (P : Program) (o : Oper) : Bool :=
  match o.op with
  | .move _ | .assign _ | .pick .. | .extract .. | .unOp .. | .indexAddr .. | .index .. | .field .. | .slice .. | .nilCheck _ | .binOp .. => true
  | .fieldAddr s _ f => fieldOk P s f
  | .convert _ dst _ => isIntT P dst
  | .call c => callKind c
  | _ => false
/-- Does it, with what the slots hold? -/
def now (ρ : Operand → Value) (o : Oper) : Bool :=
  match o.op with
  | .nilCheck x => isPlace (ρ x)
  | .binOp _ _ x y _ => bothInts (ρ x) (ρ y)
  | .convert _ _ x => isInt (ρ x)
  | .call c => callNow c (c.args.map ρ)
  | _ => true
/-- It yields one value for the operation's slot, or none in any world. -/
def CalmV (P : Program) (s : Sem Next) : Prop := (∃ v, ∀ w, s.run P w = .ok (.value v) w) ∨ (∀ w, ∃ h w', s.run P w = .halt h w')
theorem CalmV.pure (v : Value) : CalmV P (Pure.pure (Next.value v)) := .inl ⟨v, fun _ => rfl⟩
theorem CalmV.bind {α : Type} {s : Sem α} {f : α → Sem Next} (hs : Calm P s) (hf : ∀ v, CalmV P (f v)) : CalmV P (s >>= f) := by
  rcases hs with ⟨v, hv⟩ | hh
  · rcases hf v with ⟨u, hu⟩ | hh
    · exact .inl ⟨u, fun w => by rw [run_bind', hv w]; exact hu w⟩
    · exact .inr fun w => by rw [run_bind', hv w]; exact hh w
  · exact .inr fun w => by
      obtain ⟨h, w', e⟩ := hh w
      exact ⟨h, w', by rw [run_bind', e]⟩
theorem Calm.value {s : Sem Value} (h : Calm P s) : CalmV P (s >>= fun v => (Pure.pure (Next.value v) : Sem Next)) := CalmV.bind h fun _ => CalmV.pure _
theorem now_congr {ρ ρ' : Operand → Value} {o : Oper} (h : ∀ x ∈ o.op.operands, ρ x = ρ' x) : now ρ o = now ρ' o := by
  unfold now
  cases hop : o.op <;> simp only [hop] at h ⊢
  case nilCheck x => rw [h x (by simp [Op.operands])]
  case binOp op t x y t' => rw [h x (by simp [Op.operands]), h y (by simp [Op.operands])]
  case convert s d x => rw [h x (by simp [Op.operands])]
  case call c =>
    have : c.args.map ρ = c.args.map ρ' := Array.map_congr_left fun x hx => h x (by simp [Op.operands, Call.operands, hx])
    rw [this]
theorem Calm.fieldAt {s : TypeId} {f : Nat} (h : fieldOk P s f = true) (v : Value) : Calm P (Go.Instr.fieldAt s v f) := by
  unfold fieldOk at h
  split at h
  · rename_i fields hs
    split at h
    · rename_i g hg
      split at h
      · rename_i i hi
        unfold Go.Instr.fieldAt
        have hu : ∀ w, (Go.underlying s).run P w = .ok (.struct fields) w := fun w => run_und hs w
        have hz : ∀ w, (Go.sizeOf g.type).run P w = .ok i.size w := fun w => run_size hi w
        have hp : ∀ a, Calm P (Go.fieldPlace a g) := by
          intro a
          refine .inl ⟨a.add g.offset, fun w => ?_⟩
          unfold Go.fieldPlace
          rw [run_bind', hz w]
          have : ¬ i.size = 0 := by simpa using h
          simp [this]
        rcases Calm.sureAddr (P := P) v with ⟨a, ha⟩ | hh
        · rcases hp a with ⟨b, hb⟩ | hb
          · refine .inl ⟨.pointer (some b), fun w => ?_⟩
            rw [run_bind', hu w]
            simp only [hg]
            rw [run_bind', ha w]
            simp only []
            rw [run_bind', hb w]; rfl
          · refine .inr fun w => ?_
            rw [run_bind', hu w]
            simp only [hg]
            rw [run_bind', ha w]
            simp only []
            rw [run_bind']
            obtain ⟨h1, w1, e⟩ := hb w
            rw [e]; exact ⟨_, _, rfl⟩
        · refine .inr fun w => ?_
          rw [run_bind', hu w]
          simp only [hg]
          rw [run_bind']
          obtain ⟨h1, w1, e⟩ := hh w
          rw [e]; exact ⟨_, _, rfl⟩
      · cases h
    · cases h
  · cases h
theorem arr1 {vs : Array Value} (h : (vs.size == 1) = true) : vs = #[vs.getD 0 undef] := by
  obtain ⟨l⟩ := vs
  match l, h with
  | [x], _ => rfl
  | [], h => simp at h
  | _ :: _ :: _, h => simp at h
theorem arr2 {vs : Array Value} (h : (vs.size == 2) = true) : vs = #[vs.getD 0 undef, vs.getD 1 undef] := by
  obtain ⟨l⟩ := vs
  match l, h with
  | [x, y], _ => rfl
  | [], h => simp at h
  | [_], h => simp at h
  | _ :: _ :: _ :: _, h => simp at h
theorem isInt_ex {v : Value} (h : isInt v = true) : ∃ k n, v = .int k n := by cases v <;> simp [isInt] at h; exact ⟨_, _, rfl⟩
theorem isPlace_ex {v : Value} (h : isPlace v = true) : ∃ a, v = .pointer (some a) := by
  cases v <;> simp [isPlace] at h
  rename_i p; cases p <;> simp at h; exact ⟨_, rfl⟩
theorem calm_of {ρ : Operand → Value} {o : Oper} (hk : kind P o = true) (hn : now ρ o = true) : CalmV P (execOp ρ o) := by
  unfold kind at hk
  unfold now at hn
  unfold execOp
  dsimp only
  cases hop : o.op <;> simp only [hop] at hk hn ⊢ <;> first | exact absurd hk (by decide) | skip
  case move => exact CalmV.pure _
  case assign => exact CalmV.pure _
  case pick => exact CalmV.bind (Calm.asBool _) fun _ => by split <;> exact CalmV.pure _
  case extract => exact Calm.value (Calm.extract _ _)
  case unOp => exact Calm.value (Calm.unary _ _)
  case indexAddr => exact Calm.value (Calm.indexAt _ _ _)
  case index => exact Calm.value (Calm.index _ _ _)
  case field => exact Calm.value (Calm.field _ _ _)
  case slice => exact Calm.value (Calm.sliceAt _ _ _ _ _)
  case fieldAddr s x f => exact Calm.value (Calm.fieldAt hk _)
  case nilCheck x =>
    obtain ⟨a, ha⟩ := isPlace_ex hn
    rw [ha]; exact CalmV.pure _
  case binOp op t x y t' =>
    refine Calm.value ?_
    generalize ρ x = v at hn ⊢
    generalize ρ y = u at hn ⊢
    cases v <;> cases u <;> simp [bothInts] at hn
    · exact Calm.bind (Calm.eqGuardInt _ _ _ _ _ _ _ _) fun _ => Calm.binInt _ _ _ _ _ _
    · exact Calm.bind (Calm.eqGuardString _ _ _ _ _ _) fun _ => Calm.binString _ _ _ _
  case convert s d x =>
    obtain ⟨k, n, hx⟩ := isInt_ex hn
    rw [hx]
    unfold isIntT at hk
    split at hk
    · rename_i j hj; exact Calm.value (Calm.convertInt s d k j n hj)
    · cases hk
  case call c =>
    obtain ⟨callee, args, ats⟩ := c
    simp only [callKind] at hk
    split at hk <;> first | cases hk | skip
    all_goals simp only [callNow, Bool.and_eq_true] at hn
    all_goals simp only [resolve, invoke, builtin, pure_bind]
    · rw [arr1 hn.1]
      obtain ⟨_, hl⟩ := hn
      generalize (Array.map ρ args).getD 0 undef = v at hl ⊢
      cases v <;> simp [hasLen] at hl
      · exact Calm.value (Calm.len _ _ _)
      · exact Calm.value (Calm.lenSlice _ _ _ _ _)
    · rw [arr2 hn.1.1]
      obtain ⟨k, n, e1⟩ := isInt_ex hn.1.2
      obtain ⟨k', n', e2⟩ := isInt_ex hn.2
      rw [e1, e2]; exact Calm.value (Calm.maxInt _ _ _ _ _ _)
    · rw [arr2 hn.1.1]
      obtain ⟨k, n, e1⟩ := isInt_ex hn.1.2
      obtain ⟨k', n', e2⟩ := isInt_ex hn.2
      rw [e1, e2]; exact Calm.value (Calm.minInt _ _ _ _ _ _)

/-! ### A load: it leaves the world as it is -/
def Still {α : Type} (P : Program) (s : Sem α) : Prop := ∀ w v w', s.run P w = .ok v w' → w' = w
theorem Still.bind {α β : Type} {s : Sem α} {f : α → Sem β} (hs : Still P s) (hf : ∀ v, Still P (f v)) : Still P (s >>= f) := by
  intro w v w' h
  rw [run_bind'] at h
  split at h
  · rename_i u w1 e
    have := hs w u w1 e
    subst this
    exact hf u _ _ _ h
  · cases h
theorem Still.of_calm {α : Type} {s : Sem α} (h : Calm P s) : Still P s := by
  intro w v w' e
  rcases h with ⟨u, hu⟩ | hh
  · rw [hu w] at e; cases e; rfl
  · obtain ⟨x, w1, e1⟩ := hh w
    rw [e1] at e; cases e
theorem Still.pure {α : Type} (v : α) : Still P (Pure.pure v : Sem α) := Still.of_calm (Calm.pure v)
theorem Still.load (a : Addr) : Still P (Go.load a) := by
  intro w v w' h
  unfold Go.load at h
  simp only [Sem.run] at h
  split at h
  · cases h; rfl
  · split at h
    · cases h; rfl
    · cases h
theorem Still.loadCellsFrom (a : Addr) : ∀ (n i : Nat) (acc : Array Value), Still P (Go.loadCellsFrom a i n acc) := by
  intro n
  induction n with
  | zero => intro i acc; exact Still.pure _
  | succ n ih => intro i acc; exact Still.bind (Still.load _) fun v => ih _ _
theorem Still.loadAt (t : TypeId) (v : Value) : Still P (Go.Instr.loadAt t v) := by
  unfold Go.Instr.loadAt
  refine Still.bind (Still.of_calm (Calm.sureAddr _)) fun a => ?_
  unfold Go.loadVar
  refine Still.bind (Still.of_calm (Calm.isAgg _)) fun b => ?_
  split
  · refine Still.bind (Still.of_calm (Calm.sizeOf _)) fun n => Still.bind ?_ fun _ => Still.pure _
    exact Still.loadCellsFrom _ _ _ _
  · exact Still.load _
def isLoad (o : Oper) : Bool := match o.op with | .load .. => true | _ => false
theorem still_of {ρ : Operand → Value} {o : Oper} (h : isLoad o = true) : ∀ w n w', (execOp ρ o).run P w = .ok n w' → w' = w ∧ ∃ v, n = .value v := by
  intro w n w' e
  unfold isLoad at h
  split at h
  · rename_i t x hop
    unfold execOp at e
    dsimp only at e
    rw [hop] at e
    simp only [] at e
    rw [run_bind'] at e
    split at e
    · rename_i v w1 e1
      have := Still.loadAt t (ρ x) w v w1 e1
      subst this
      cases e
      exact ⟨rfl, v, rfl⟩
    · cases e
  · cases h
end
end Reg
end Go.Proofs.YtlahficmkfgooaaGreat


/- The same: the theorem. No condition. -/
namespace Go.Proofs.YtlahficmkfgooaaGreat
namespace Reg
set_option linter.unusedVariables false
section
variable {P : Program} {ops : Array Oper} {Q : Exit → Act → World → Prop} {md : Region.Mode} {n : Nat}

def calmAll (P : Program) (ops : Array Oper) (n : Nat) (a : Act) : Bool :=
  (ops.toList.drop n).all fun o => !kind P o || now a.eval o || !Region.wanted o (yielded ops a.tmps)
/-- What the walk in the text's order comes to. -/
def RegQ (P : Program) (ops : Array Oper) (n : Nat) (Q : Exit → Act → World → Prop) : Exit → Act → World → Prop
  | .normal, a, w => calmAll P ops n a = true ∧ Q .normal a w
  | _, _, _ => False
theorem no_out : ¬ LetsOut (RegQ P ops n Q) := fun ⟨_, _, h⟩ => h
/-- What an operation does, it does: some frame and world behind it. -/
theorem wpOp_some {i : Nat} {K : Act → World → Prop} {a : Act} {w : World} (h : wpOp P ops (RegQ P ops n Q) i K a w) :
    ∃ a' w', K a' w' ∧ ∀ t, (∀ o, ops[i]? = some o → o.dst ≠ some t) → a'.tmps.getD t undef = a.tmps.getD t undef := by
  have put : ∀ (a : Act) (d : Option Tmp) (v : Value) (t : Nat), d ≠ some t → (a.put d v).tmps.getD t undef = a.tmps.getD t undef := by
    intro a d v t h
    cases d with
    | none => rfl
    | some d =>
      have hne : d ≠ t := fun e => h (by rw [e])
      simp only [Act.put, Array.getD_eq_getD_getElem?, Array.getElem?_setIfInBounds_ne hne]
  unfold wpOp at h
  cases ho : ops[i]? with
  | none => rw [ho] at h; exact ⟨a, w, h, fun _ _ => rfl⟩
  | some o =>
    rw [ho] at h
    simp only at h
    have key : ∀ v t, (∀ o', some o = some o' → o'.dst ≠ some t) → (a.put o.dst v).tmps.getD t undef = a.tmps.getD t undef := fun v t ht => put a o.dst v t (ht o rfl)
    split at h
    · rcases h with h | ⟨_, h⟩
      · unfold Oper.wp at h
        generalize (execOp a.eval o).run P w = r at h
        cases r with
        | ok n w' =>
          cases n <;> simp only [Oper.upon] at h
          case value v => exact ⟨_, _, h, key v⟩
          case skip => exact ⟨_, _, h, key _⟩
          case defer d => exact ⟨_, _, h, fun t ht => put _ _ _ _ (ht o rfl)⟩
          case enter f args =>
            obtain ⟨e, w'', fr, hR, _⟩ := h []
            cases e with
            | returned v => exact ⟨_, _, hR, key v⟩
            | panicked c => exact hR.elim
            | outgrown => exact (no_out hR).elim
          case row row args =>
            obtain ⟨v, w'', hR, _⟩ := h default []
            exact ⟨_, _, hR, key v⟩
        | halt x w' => cases x <;> simp only [Oper.upon] at h; exact h.elim
      · exact (no_out h).elim
    · exact ⟨_, _, h, key _⟩
theorem wpOp_up {i : Nat} {K K' : Act → World → Prop} (hK : ∀ a w, K a w → K' a w) {a : Act} {w : World} (h : wpOp P ops (RegQ P ops n Q) i K a w) : wpOp P ops Q i K' a w := by
  unfold wpOp at h ⊢
  cases ho : ops[i]? with
  | none => rw [ho] at h; exact hK _ _ h
  | some o =>
    rw [ho] at h
    simp only at h ⊢
    split at h
    · rename_i hw
      rw [if_pos hw]
      rcases h with h | ⟨_, h⟩
      · refine .inl ?_
        unfold Oper.wp at h ⊢
        generalize (execOp a.eval o).run P w = r at h
        cases r with
        | ok n w' =>
          cases n <;> simp only [Oper.upon] at h ⊢
          case value v => exact hK _ _ h
          case skip => exact hK _ _ h
          case defer d => exact hK _ _ h
          case enter f args =>
            refine Calls.mono h fun e w'' hR => ?_
            cases e with
            | returned v => exact hK _ _ hR
            | panicked c => exact hR.elim
            | outgrown => exact (no_out hR).elim
          case row row args => exact Rows.mono h fun v w'' hR => hK _ _ hR
        | halt x w' => cases x <;> simp only [Oper.upon] at h; exact h.elim
      · exact (no_out h).elim
    · rename_i hw
      rw [if_neg hw]; exact hK _ _ h
/-- What an operation that reckons yields, whatever the world. -/
theorem yields {i : Nat} {o : Oper} {K : Act → World → Prop} {a : Act} {w : World} (hi : ops[i]? = some o) (hc : Region.wanted o (yielded ops a.tmps) = true → CalmV P (execOp a.eval o))
    (h : wpOp P ops (RegQ P ops n Q) i K a w) : ∃ v, Yields P ops o v a ∧ K (a.put o.dst v) w := by
  unfold wpOp at h
  rw [hi] at h
  simp only at h
  split at h
  · rename_i hw
    rcases h with h | ⟨_, h⟩
    · rcases hc hw with ⟨v, hv⟩ | hh
      · unfold Oper.wp at h
        rw [hv w] at h
        exact ⟨v, .inl ⟨hw, hv⟩, h⟩
      · obtain ⟨x, w', e⟩ := hh w
        unfold Oper.wp at h
        rw [e] at h
        cases x <;> simp only [Oper.upon] at h
        exact h.elim
    · exact (no_out h).elim
  · rename_i hw
    exact ⟨undef, .inr ⟨by simpa using hw, rfl⟩, h⟩
theorem noSel (h : Region.noSelect ops = true) {i : Nat} {o : Oper} (hi : ops[i]? = some o) : ∀ cs b, o.op ≠ .select cs b := fun cs b => Region.noSelect_spec h i o cs b hi
theorem no_panic {d : Option Tmp} {v : Value} : ∀ c a w, RegQ P ops n Q (.panic c) (Act.put a d v) w → RegQ P ops n Q (.panic c) a w := fun _ _ _ h => h.elim
theorem yielded_getD (ops : Array Oper) (tmps : Array Value) (g : Nat) : yielded ops tmps g = (match (ops[g]?).bind (·.dst) with | some d => (match tmps.getD d undef with | .bool b => some b | _ => none) | none => none) := by
  unfold yielded
  cases (ops[g]?).bind (·.dst) with
  | none => rfl
  | some d =>
    simp only [Option.bind_some, Array.getD_eq_getD_getElem?]
    cases tmps[d]? with
    | none => rfl
    | some v => cases v <;> rfl
/-- A guard's slot that holds the same gives the same word. -/
theorem wanted_same {o : Oper} {a a' : Act} (h : ∀ t ∈ o.looksAt ops, a'.tmps.getD t undef = a.tmps.getD t undef) : Region.wanted o (yielded ops a'.tmps) = Region.wanted o (yielded ops a.tmps) := by
  unfold Region.wanted
  cases hg : o.guard with
  | none => rfl
  | some q =>
    obtain ⟨g, want⟩ := q
    simp only
    rw [yielded_getD, yielded_getD]
    cases hd : (ops[g]?).bind (·.dst) with
    | none => rfl
    | some d =>
      simp only
      rw [h d (List.mem_append_right _ (by simp [hg, hd]))]
theorem exec_same {o : Oper} {a a' : Act} (hs : ∀ cs b, o.op ≠ .select cs b) (h : ∀ t ∈ o.looksAt ops, a'.tmps.getD t undef = a.tmps.getD t undef) : ∀ x ∈ o.op.operands, a'.eval x = a.eval x := by
  intro x hx
  cases x with
  | tmp t => exact h t (List.mem_append_left _ (List.mem_filterMap.2 ⟨.tmp t, by simpa using hx, rfl⟩))
  | _ => rfl
/-- The later one reckons: it may go first. -/
theorem swap_i {i j : Nat} {oi oj : Oper} (hi : ops[i]? = some oi) (hj : ops[j]? = some oj) (hs : Region.noSelect ops = true) (hap : oi.apart ops oj = true)
    {K : Act → World → Prop} {a : Act} {w : World} (hc : Region.wanted oi (yielded ops a.tmps) = true → CalmV P (execOp a.eval oi))
    (h : wpOp P ops (RegQ P ops n Q) j (wpOp P ops (RegQ P ops n Q) i K) a w) : wpOp P ops (RegQ P ops n Q) i (wpOp P ops (RegQ P ops n Q) j K) a w := by
  obtain ⟨h1, h2, h3⟩ := Oper.apart_spec hap
  -- what i yields
  have hy : ∃ v, Yields P ops oi v a := by
    by_cases hw : Region.wanted oi (yielded ops a.tmps) = true
    · rcases hc hw with ⟨v, hv⟩ | hh
      · exact ⟨v, .inl ⟨hw, hv⟩⟩
      · exfalso
        obtain ⟨a', w', hk, hsame⟩ := wpOp_some h
        -- i does not run to its end behind j either
        have hlook : ∀ t ∈ oi.looksAt ops, a'.tmps.getD t undef = a.tmps.getD t undef := fun t ht => hsame t fun o ho hd => by
          rw [hj] at ho
          cases ho
          exact h3 t hd ht
        have he : execOp a'.eval oi = execOp a.eval oi := execOp_congr oi (noSel hs hi) (exec_same (noSel hs hi) hlook)
        have hw' : Region.wanted oi (yielded ops a'.tmps) = true := by rw [wanted_same hlook]; exact hw
        obtain ⟨v, hy', _⟩ := yields hi (fun _ => by rw [he]; exact .inr hh) hk
        rcases hy' with ⟨_, hv⟩ | ⟨hn, _⟩
        · obtain ⟨x, w2, e⟩ := hh w
          have := hv w
          rw [he, e] at this
          cases this
        · rw [hw'] at hn; cases hn
    · exact ⟨undef, .inr ⟨by simpa using hw, rfl⟩⟩
  obtain ⟨v, hy⟩ := hy
  refine hy.wpOp hi ?_
  have keep : ∀ u, Yields P ops oi v (a.put oj.dst u) := fun u =>
    hy.of_same (execOp_put oi (noSel hs hi) a oj.dst u h3) (wanted_put oi a oj.dst u h3)
  have keepD : ∀ d, Yields P ops oi v { a with defers := d :: a.defers } := fun d => hy.of_same rfl rfl
  have step : ∀ {a' : Act} {w'}, Yields P ops oi v a' → wpOp P ops (RegQ P ops n Q) i K a' w' → K (a'.put oi.dst v) w' := by
    intro a' w' hy' hk
    obtain ⟨u, hu, hK⟩ := yields hi (fun hw => by
      rcases hy' with ⟨_, hv⟩ | ⟨hn, _⟩
      · exact .inl ⟨v, hv⟩
      · rw [hw] at hn; cases hn) hk
    have : u = v := by
      rcases hu with ⟨hw, hv⟩ | ⟨hn, rfl⟩ <;> rcases hy' with ⟨hw', hv'⟩ | ⟨hn', rfl⟩
      · have := (hv w).symm.trans (hv' w); simpa using this
      · rw [hw] at hn'; cases hn'
      · rw [hn] at hw'; cases hw'
      · rfl
    rw [← this]; exact hK
  unfold wpOp at h ⊢
  rw [hj] at h ⊢
  simp only at h ⊢
  rw [wanted_put oj a oi.dst v h1]
  split at h
  · rename_i hw
    rw [if_pos hw]
    rcases h with h | ⟨_, h⟩
    · refine .inl ?_
      unfold Oper.wp at h ⊢
      rw [execOp_put oj (noSel hs hj) a oi.dst v h1]
      generalize (execOp a.eval oj).run P w = r at h
      cases r with
      | ok n w' =>
        cases n <;> simp only [Oper.upon] at h ⊢
        case value u => rw [Act.put_comm a v u h2]; exact step (keep u) h
        case skip => rw [Act.put_comm a v undef h2]; exact step (keep _) h
        case defer d =>
          rw [Act.put_defers, Act.put_comm _ v undef h2]
          exact step ((keepD d).of_same (execOp_put oi (noSel hs hi) _ oj.dst undef h3) (wanted_put oi _ oj.dst undef h3)) h
        case enter f args =>
          refine Calls.mono h fun e w'' he => ?_
          cases e with
          | returned u => simp only at he ⊢; rw [Act.put_comm a v u h2]; exact step (keep u) he
          | panicked c => exact he.elim
          | outgrown => exact (no_out he).elim
        case row row args => exact Rows.mono h fun u w'' he => by rw [Act.put_comm a v u h2]; exact step (keep u) he
      | halt x w' => cases x <;> simp only [Oper.upon] at h; exact h.elim
    · exact (no_out h).elim
  · rename_i hw
    rw [if_neg hw, Act.put_comm a v undef h2]
    exact step (keep _) h
/-- The earlier one reckons: it may go last. -/
theorem swap_j {i j : Nat} {oi oj : Oper} (hi : ops[i]? = some oi) (hj : ops[j]? = some oj) (hs : Region.noSelect ops = true) (hap : oj.apart ops oi = true)
    {K : Act → World → Prop} {a : Act} {w : World} (hc : Region.wanted oj (yielded ops a.tmps) = true → CalmV P (execOp a.eval oj))
    (h : wpOp P ops (RegQ P ops n Q) j (wpOp P ops (RegQ P ops n Q) i K) a w) : wpOp P ops (RegQ P ops n Q) i (wpOp P ops (RegQ P ops n Q) j K) a w := by
  obtain ⟨v, hy, h2⟩ := yields hj hc h
  exact wpOp_mono (fun a' w' h3 => h3.1.wpOp hj h3.2) (wpOp_put hi hap (noSel hs hj) (noSel hs hi) no_panic hy h2)
/-- What an operation yields that leaves the world as it is. -/
def Det (P : Program) (ops : Array Oper) (o : Oper) (a : Act) (w : World) (v : Value) : Prop :=
  (Region.wanted o (yielded ops a.tmps) = true ∧ (execOp a.eval o).run P w = .ok (.value v) w) ∨ (Region.wanted o (yielded ops a.tmps) = false ∧ v = undef)
theorem Det.to {i : Nat} {o : Oper} {a : Act} {w : World} {v : Value} (hi : ops[i]? = some o) (hd : Det P ops o a w v) {K : Act → World → Prop} (h : K (a.put o.dst v) w) : wpOp P ops Q i K a w := by
  unfold wpOp
  rw [hi]
  simp only
  rcases hd with ⟨hw, hr⟩ | ⟨hw, rfl⟩
  · rw [if_pos hw]; left; unfold Oper.wp; rw [hr]; exact h
  · rw [if_neg (by simp [hw])]; exact h
theorem Det.of {i : Nat} {o : Oper} {a : Act} {w : World} (hi : ops[i]? = some o) (hl : isLoad o = true) {K : Act → World → Prop} (h : wpOp P ops (RegQ P ops n Q) i K a w) : ∃ v, Det P ops o a w v ∧ K (a.put o.dst v) w := by
  unfold wpOp at h
  rw [hi] at h
  simp only at h
  split at h
  · rename_i hw
    rcases h with h | ⟨_, h⟩
    · unfold Oper.wp at h
      cases hr : (execOp a.eval o).run P w with
      | ok n w' =>
        obtain ⟨rfl, v, rfl⟩ := still_of hl w n w' hr
        rw [hr] at h
        exact ⟨v, .inl ⟨hw, hr⟩, h⟩
      | halt x w' => rw [hr] at h; cases x <;> simp only [Oper.upon] at h; exact h.elim
    · exact (no_out h).elim
  · rename_i hw
    exact ⟨undef, .inr ⟨by simpa using hw, rfl⟩, h⟩
theorem Det.same {o : Oper} {a a' : Act} {w : World} {v : Value} (he : execOp a'.eval o = execOp a.eval o) (hw : Region.wanted o (yielded ops a'.tmps) = Region.wanted o (yielded ops a.tmps)) (h : Det P ops o a w v) : Det P ops o a' w v := by
  unfold Det at *; rw [he, hw]; exact h
/-- Two loads change places. -/
theorem swap_loads {i j : Nat} {oi oj : Oper} (hi : ops[i]? = some oi) (hj : ops[j]? = some oj) (hs : Region.noSelect ops = true) (hap : oi.apart ops oj = true) (hap' : oj.apart ops oi = true)
    (hli : isLoad oi = true) (hlj : isLoad oj = true) {K : Act → World → Prop} {a : Act} {w : World}
    (h : wpOp P ops (RegQ P ops n Q) j (wpOp P ops (RegQ P ops n Q) i K) a w) : wpOp P ops (RegQ P ops n Q) i (wpOp P ops (RegQ P ops n Q) j K) a w := by
  obtain ⟨h1, h2, h3⟩ := Oper.apart_spec hap
  obtain ⟨h1', h2', h3'⟩ := Oper.apart_spec hap'
  obtain ⟨u, hu, hk⟩ := Det.of hj hlj h
  obtain ⟨v, hv, hK⟩ := Det.of hi hli hk
  have hv' : Det P ops oi a w v := hv.same (execOp_put oi (noSel hs hi) a oj.dst u h3).symm (wanted_put oi a oj.dst u h3).symm
  have hu' : Det P ops oj (a.put oi.dst v) w u := hu.same (execOp_put oj (noSel hs hj) a oi.dst v h1) (wanted_put oj a oi.dst v h1)
  refine hv'.to hi (hu'.to hj ?_)
  rw [Act.put_comm a v u h2]; exact hK

/-! ### The theorem -/
/-- What is left, in the text's order. -/
def left (n : Nat) (listed : Array Bool) : List Nat := (List.range n).filter fun i => !listed.getD i true
/-- Is j ahead of i, by edges? -/
def ahead (md : Region.Mode) (ops : Array Oper) : Nat → Nat → Nat → Bool
  | 0, _, _ => false
  | k + 1, j, i => match ops[i]? with
    | some o => o.after.any fun e => Region.binds md e && (e.on == j || ahead md ops k j e.on)
    | none => false
def static (o : Oper) : Bool :=
  match o.op with
  | .nilCheck _ | .binOp .. | .convert .. | .call _ => false
  | _ => true
def stableAt (P : Program) (ops : Array Oper) (i k : Nat) : Bool :=
  match ops[i]?, ops[k]? with
  | some oi, some ok => !kind P oi || static oi || (match ok.dst with | some d => !(oi.looksAt ops).contains d | none => true)
  | _, _ => true
def pairOk (P : Program) (md : Region.Mode) (ops : Array Oper) (j i : Nat) : Bool :=
  match ops[j]?, ops[i]? with
  | some oj, some oi => ahead md ops ops.size j i || (oi.apart ops oj && oj.apart ops oi && (kind P oi || kind P oj || (isLoad oi && isLoad oj)))
  | _, _ => false
def textOk (P : Program) (md : Region.Mode) (ops : Array Oper) (n : Nat) : Bool :=
  Region.noSelect ops && (List.range ops.size).all fun i =>
    (match ops[i]? with | some o => o.after.all fun e => !Region.binds md e || decide (e.on < i) | none => true) &&
    (decide (i < n) || ((List.range i).all fun j => decide (j < n) || pairOk P md ops j i) &&
    ((List.range ops.size).all fun k => decide (k < i) || stableAt P ops i k))
structure Ok (P : Program) (md : Region.Mode) (ops : Array Oper) (n : Nat) : Prop where
  sel : Region.noSelect ops = true
  edge : ∀ i o, ops[i]? = some o → ∀ e ∈ o.after, Region.binds md e = true → e.on < i
  pair : ∀ i j oi oj, n ≤ j → j < i → ops[i]? = some oi → ops[j]? = some oj → ahead md ops ops.size j i = true ∨ (oi.apart ops oj = true ∧ oj.apart ops oi = true ∧ (kind P oi = true ∨ kind P oj = true ∨ (isLoad oi = true ∧ isLoad oj = true)))
  stable : ∀ (i k : Nat) (oi o' : Oper) (d : Tmp), n ≤ i → i ≤ k → ops[i]? = some oi → ops[k]? = some o' → kind P oi = true → static oi = false → o'.dst = some d → d ∉ oi.looksAt ops
theorem ok_of (h : textOk P md ops n = true) : Ok P md ops n := by
  unfold textOk at h
  simp only [Bool.and_eq_true, List.all_eq_true, List.mem_range] at h
  obtain ⟨h1, h2⟩ := h
  have lt : ∀ {i : Nat} {o : Oper}, ops[i]? = some o → i < ops.size := fun h => (Array.getElem?_eq_some_iff.1 h).1
  refine ⟨h1, fun i o hi e he hb => ?_, fun i j oi oj hnj hji hi hj => ?_, fun i k oi ok d hni hik hi hk hki hst hd hm => ?_⟩
  · have := (h2 i (lt hi)).1
    rw [hi] at this
    simp only [Array.all_eq_true_iff_forall_mem] at this
    have := this e he
    simpa [hb] using this
  · have := (h2 i (lt hi)).2
    simp only [Bool.or_eq_true, Bool.and_eq_true, decide_eq_true_eq, List.all_eq_true, List.mem_range] at this
    have := (this.resolve_left (by omega)).1 j hji
    have := this.resolve_left (by omega)
    unfold pairOk at this
    rw [hi, hj] at this
    simp only [Bool.or_eq_true, Bool.and_eq_true] at this
    rcases this with h | ⟨⟨h3, h4⟩, h5⟩
    · exact .inl h
    · exact .inr ⟨h3, h4, by rcases h5 with (h5 | h5) | h5 <;> simp [h5]⟩
  · have := (h2 i (lt hi)).2
    simp only [Bool.or_eq_true, Bool.and_eq_true, decide_eq_true_eq, List.all_eq_true, List.mem_range] at this
    have := (this.resolve_left (by omega)).2 k (lt hk)
    unfold stableAt at this
    rw [hi, hk] at this
    simp only [hki, hst, hd, Bool.or_eq_true, Bool.not_true, Bool.false_eq_true, or_false, false_or, Bool.not_eq_true', List.contains_eq_mem, decide_eq_false_iff_not] at this
    rcases this with h | h
    · omega
    · exact h hm
/-- The frame behind what is left agrees on the slots that it doesn't write, and all that reckon are fit to. -/
theorem end_of : ∀ (R : List Nat) (a : Act) (w : World), wpOps P ops (RegQ P ops n Q) R a w →
    ∃ a', calmAll P ops n a' = true ∧ ∀ t, (∀ k ∈ R, ∀ o, ops[k]? = some o → o.dst ≠ some t) → a'.tmps.getD t undef = a.tmps.getD t undef := by
  intro R
  induction R with
  | nil => intro a w h; exact ⟨a, h.1, fun _ _ => rfl⟩
  | cons k R ih =>
    intro a w h
    rw [wpOps_cons] at h
    obtain ⟨a1, w1, h1, hs1⟩ := wpOp_some h
    obtain ⟨a2, h2, hs2⟩ := ih a1 w1 h1
    refine ⟨a2, h2, fun t ht => ?_⟩
    rw [hs2 t fun k' hk' => ht k' (List.mem_cons_of_mem _ hk'), hs1 t (ht k List.mem_cons_self)]
theorem now_of {R : List Nat} {a : Act} {w : World} (h : wpOps P ops (RegQ P ops n Q) R a w) (hsel : Region.noSelect ops = true) {i : Nat} {oi : Oper} (hni : n ≤ i) (hi : ops[i]? = some oi) (hk : kind P oi = true)
    (hst : static oi = false → ∀ k ∈ R, ∀ o d, ops[k]? = some o → o.dst = some d → d ∉ oi.looksAt ops)
    (hw : Region.wanted oi (yielded ops a.tmps) = true) : CalmV P (execOp a.eval oi) := by
  refine calm_of hk ?_
  cases hs : static oi with
  | true =>
    unfold static at hs
    unfold now
    cases hop : oi.op <;> simp only [hop] at hs ⊢ <;> cases hs
  | false =>
    obtain ⟨a', hc, hsame⟩ := end_of R a w h
    have hlook : ∀ t ∈ oi.looksAt ops, a'.tmps.getD t undef = a.tmps.getD t undef := fun t ht => hsame t fun k hk' o ho hd => hst hs k hk' o t ho hd ht
    unfold calmAll at hc
    rw [List.all_eq_true] at hc
    have hm := hc oi (List.mem_of_getElem? (i := i - n) (by rw [List.getElem?_drop, Nat.add_sub_cancel' hni]; simpa using hi))
    rw [wanted_same hlook, hw, hk] at hm
    rw [← now_congr (exec_same (noSel hsel hi) hlook)]
    simpa using hm
/-- One that may come now is taken out of the middle. -/
theorem take_out (ok : Ok P md ops n) {i : Nat} {oi : Oper} (hi : ops[i]? = some oi) : ∀ (pre post : List Nat) (a : Act) (w : World),
    (∀ k ∈ pre ++ i :: post, n ≤ k) → (pre ++ i :: post).Pairwise (· < ·) → (∀ j ∈ pre, ∃ oj, ops[j]? = some oj ∧ oi.apart ops oj = true ∧ oj.apart ops oi = true ∧ (kind P oi = true ∨ kind P oj = true ∨ (isLoad oi = true ∧ isLoad oj = true))) →
    wpOps P ops (RegQ P ops n Q) (pre ++ i :: post) a w → wpOp P ops (RegQ P ops n Q) i (wpOps P ops (RegQ P ops n Q) (pre ++ post)) a w := by
  intro pre
  induction pre with
  | nil => intro post a w _ _ _ h; rw [List.nil_append, wpOps_cons] at h; exact h
  | cons j pre ih =>
    intro post a w hge hsort hpre h
    have hni : n ≤ i := hge i (by simp)
    have hnj : n ≤ j := hge j (by simp)
    obtain ⟨oj, hj, hap1, hap2, hkk⟩ := hpre j List.mem_cons_self
    have hsort' : (j :: (pre ++ i :: post)).Pairwise (· < ·) := hsort
    rw [List.pairwise_cons] at hsort'
    have h0 := h
    rw [List.cons_append, wpOps_cons] at h
    have h1 : wpOp P ops (RegQ P ops n Q) j (wpOp P ops (RegQ P ops n Q) i (wpOps P ops (RegQ P ops n Q) (pre ++ post))) a w :=
      wpOp_mono (fun a' w' h' => ih post a' w' (fun k hk => hge k (List.mem_cons_of_mem _ hk)) hsort'.2 (fun k hk => hpre k (List.mem_cons_of_mem _ hk)) h') h
    have h2 : wpOp P ops (RegQ P ops n Q) i (wpOp P ops (RegQ P ops n Q) j (wpOps P ops (RegQ P ops n Q) (pre ++ post))) a w := by
      rcases hkk with hk | hk | hk
      · refine swap_i hi hj ok.sel hap1 (fun hw => ?_) h1
        refine now_of h0 ok.sel hni hi hk (fun hst k hkm o d ho hd => ?_) hw
        rcases List.mem_append.1 hkm with hkp | hkp
        · obtain ⟨o', ho', _, hb, _⟩ := hpre k hkp
          rw [ho'] at ho; cases ho
          exact (Oper.apart_spec hb).1 d hd
        · have hle : i ≤ k := by
            rcases List.mem_cons.1 hkp with rfl | hkp
            · exact Nat.le_refl _
            · have hs3 := (List.pairwise_append.1 hsort).2.1
              rw [List.pairwise_cons] at hs3
              exact Nat.le_of_lt (hs3.1 k hkp)
          exact ok.stable i k oi o d hni hle hi ho hk hst hd
      · refine swap_j hi hj ok.sel hap2 (fun hw => ?_) h1
        refine now_of h0 ok.sel hnj hj hk (fun hst k hkm o d ho hd => ?_) hw
        have hle : j ≤ k := by
          rcases List.mem_cons.1 hkm with rfl | hkm
          · exact Nat.le_refl _
          · exact Nat.le_of_lt (hsort'.1 k hkm)
        exact ok.stable j k oj o d hnj hle hj ho hk hst hd
      · exact swap_loads hi hj ok.sel hap1 hap2 hk.1 hk.2 h1
    rw [List.cons_append, show wpOps P ops (RegQ P ops n Q) (j :: (pre ++ post)) = wpOp P ops (RegQ P ops n Q) j (wpOps P ops (RegQ P ops n Q) (pre ++ post)) from funext fun a => funext fun w => wpOps_cons _ _ _ _]
    exact h2
def Closed (md : Region.Mode) (ops : Array Oper) (listed : Array Bool) : Prop :=
  listed.size = ops.size ∧ ∀ j oj, ops[j]? = some oj → listed.getD j false = true → ∀ e ∈ oj.after, Region.binds md e = true → listed.getD e.on false = true
theorem ahead_listed {listed : Array Bool} (hc : Closed md ops listed) : ∀ (k j i : Nat) (oi : Oper), ops[i]? = some oi → (∀ e ∈ oi.after, Region.binds md e = true → listed.getD e.on false = true) →
    ahead md ops k j i = true → listed.getD j false = true := by
  intro k
  induction k with
  | zero => intro j i oi _ _ h; simp [ahead] at h
  | succ k ih =>
    intro j i oi hi hall h
    simp only [ahead, hi, Array.any_eq_true', Bool.and_eq_true, Bool.or_eq_true, beq_iff_eq] at h
    obtain ⟨e, he, hb, h | h⟩ := h
    · rw [← h]; exact hall e he hb
    · have hl := hall e he hb
      cases hoe : ops[e.on]? with
      | none =>
        have hlt : ¬ e.on < ops.size := fun hlt => by rw [Array.getElem?_eq_getElem hlt] at hoe; cases hoe
        have : listed.getD e.on false = false := by
          rw [Array.getD_eq_getD_getElem?, Array.getElem?_eq_none (by rw [hc.1]; omega)]; rfl
        rw [this] at hl; cases hl
      | some oe => exact ih j e.on oe hoe (hc.2 e.on oe hoe hl) h
theorem mem_left {n : Nat} {listed : Array Bool} {i : Nat} : i ∈ left n listed ↔ i < n ∧ listed.getD i true = false := by
  unfold left; rw [List.mem_filter, List.mem_range]; simp
theorem left_sorted (n : Nat) (listed : Array Bool) : (left n listed).Pairwise (· < ·) := List.Pairwise.filter _ List.pairwise_lt_range
theorem left_set {n : Nat} {listed : Array Bool} (hs : listed.size = n) {i : Nat} {pre post : List Nat} (h : left n listed = pre ++ i :: post) : left n (listed.setIfInBounds i true) = pre ++ post := by
  have hnd : (left n listed).Nodup := (left_sorted n listed).imp fun h => Nat.ne_of_lt h
  have hfil : left n (listed.setIfInBounds i true) = (left n listed).filter (· != i) := by
    unfold left
    rw [List.filter_filter]
    apply List.filter_congr
    intro k hk
    have hk' := List.mem_range.1 hk
    by_cases hki : i = k
    · subst hki
      have : (listed.setIfInBounds i true).getD i true = true := by
        rw [Array.getD_eq_getD_getElem?, Array.getElem?_setIfInBounds_self]
        split <;> rfl
      rw [this]; simp
    · rw [getD_set_ne true hki]
      have : (k != i) = true := by simp; omega
      rw [this]; simp
  rw [hfil, h, List.filter_append, List.filter_cons]
  rw [h] at hnd
  have hn := List.nodup_append.1 hnd
  have h1 : pre.filter (· != i) = pre := List.filter_eq_self.2 fun k hk => by
    have := hn.2.2 k hk i List.mem_cons_self
    simpa using this
  have h2 : post.filter (· != i) = post := List.filter_eq_self.2 fun k hk => by
    have := (List.nodup_cons.1 hn.2.1).1
    have hne : k ≠ i := fun e => this (e ▸ hk)
    simpa using hne
  rw [h1, h2]; simp
theorem getD_tf {listed : Array Bool} {i : Nat} (h : listed.getD i true = false) : listed.getD i false = false := by
  rcases Nat.lt_or_ge i listed.size with h' | h'
  · simp [h'] at h ⊢; exact h
  · simp [Array.getElem?_eq_none h'] at h
theorem text_any (ok : Ok P md ops n) : ∀ (fuel : Nat) (listed : Array Bool) (a : Act) (w : World), Closed md ops listed → (∀ k ∈ left ops.size listed, n ≤ k) → (left ops.size listed).length ≤ fuel →
    wpOps P ops (RegQ P ops n Q) (left ops.size listed) a w → wpAny P md ops Q fuel listed a w := by
  have hempty : ∀ (listed : Array Bool), Closed md ops listed → Region.ready md ops listed = [] → left ops.size listed = [] := by
    intro listed hc hr
    cases hl : left ops.size listed with
    | nil => rfl
    | cons i R =>
      exfalso
      have hi := mem_left.1 (hl ▸ List.mem_cons_self : i ∈ left ops.size listed)
      have hoi : ops[i]? = some ops[i] := Array.getElem?_eq_getElem hi.1
      have : i ∈ Region.ready md ops listed := mem_ready.2 ⟨hi.2, _, hoi, fun e he hb => by
        have hlt := ok.edge i _ hoi e he hb
        cases hge : listed.getD e.on false with
        | true => rfl
        | false =>
          exfalso
          have hm : e.on ∈ left ops.size listed := mem_left.2 ⟨by omega, by
            rw [Array.getD_eq_getD_getElem?, Array.getElem?_eq_getElem (by rw [hc.1]; omega)] at hge ⊢; exact hge⟩
          rw [hl] at hm
          rcases List.mem_cons.1 hm with h | h
          · omega
          · have hs := left_sorted ops.size listed
            rw [hl, List.pairwise_cons] at hs
            have := hs.1 _ h
            omega⟩
      rw [hr] at this; cases this
  intro fuel
  induction fuel with
  | zero =>
    intro listed a w hc hge hlen h
    have hnil : left ops.size listed = [] := List.eq_nil_of_length_eq_zero (by omega)
    rw [hnil] at h
    refine ⟨?_, h.2⟩
    cases hr : Region.ready md ops listed with
    | nil => rfl
    | cons i rs =>
      exfalso
      obtain ⟨h1, o, h2, _⟩ := mem_ready.1 (hr ▸ List.mem_cons_self : i ∈ Region.ready md ops listed)
      have : i ∈ left ops.size listed := mem_left.2 ⟨(Array.getElem?_eq_some_iff.1 h2).1, h1⟩
      rw [hnil] at this; cases this
  | succ fuel ih =>
    intro listed a w hc hge hlen h
    refine ⟨fun hr => ?_, fun i hir => ?_⟩
    · rw [hempty listed hc hr] at h; exact h.2
    · obtain ⟨hun, oi, hi, hall⟩ := mem_ready.1 hir
      have hm : i ∈ left ops.size listed := mem_left.2 ⟨(Array.getElem?_eq_some_iff.1 hi).1, hun⟩
      obtain ⟨pre, post, hsplit⟩ := List.append_of_mem hm
      have hsort := left_sorted ops.size listed
      have hge' := hge
      rw [hsplit] at hsort h hge'
      have hpre : ∀ j ∈ pre, ∃ oj, ops[j]? = some oj ∧ oi.apart ops oj = true ∧ oj.apart ops oi = true ∧ (kind P oi = true ∨ kind P oj = true ∨ (isLoad oi = true ∧ isLoad oj = true)) := by
        intro j hj
        have hjl := mem_left.1 (hsplit ▸ List.mem_append_left _ hj : j ∈ left ops.size listed)
        have hji : j < i := (List.pairwise_append.1 hsort).2.2 j hj i List.mem_cons_self
        have hoj : ops[j]? = some ops[j] := Array.getElem?_eq_getElem hjl.1
        refine ⟨_, hoj, ?_⟩
        rcases ok.pair i j oi _ (hge' j (List.mem_append_left _ hj)) hji hi hoj with ha | hq
        · have := ahead_listed hc _ _ _ _ hi hall ha
          rw [getD_tf hjl.2] at this; cases this
        · exact hq
      have h3 := take_out ok hi pre post a w hge' hsort hpre h
      refine wpOp_up (fun a' w' h' => ?_) h3
      have hset := left_set hc.1 hsplit
      refine ih (listed.setIfInBounds i true) a' w' ⟨by simp [hc.1], fun j oj hj hl e he hb => ?_⟩ ?_ ?_ ?_
      · by_cases hij : i = j
        · subst hij
          have : oj = oi := Option.some.inj (hj.symm.trans hi)
          subst this
          exact getD_set_true (hall e he hb)
        · rw [getD_set_ne false hij] at hl
          exact getD_set_true (hc.2 j oj hj hl e he hb)
      · rw [hset]
        intro k hk
        refine hge' k ?_
        rcases List.mem_append.1 hk with h | h
        · exact List.mem_append_left _ h
        · exact List.mem_append_right _ (List.mem_cons_of_mem _ h)
      · rw [hset]
        rw [hsplit] at hlen
        simp only [List.length_append, List.length_cons] at hlen ⊢
        omega
      · rw [hset]; exact h'
/-- A REGION THAT DRAWS ITS ORDER, WALKED IN THE TEXT's. -/
theorem wp_text {id : Nat} {l : List Oper} {a : Act} {w : World} (hm : P.follows .mixedOrders = true) (hok : textOk P .any l.toArray 0 = true)
    (h : wpList P l.toArray (RegQ P l.toArray 0 Q) l a w.drew) : (Code.region id l.toArray true).wp P Q a w := by
  refine wp_region_any hm ?_
  refine text_any (ok_of hok) l.toArray.size _ a _ ⟨by simp, fun j oj hj hl => ?_⟩ (fun _ _ => Nat.zero_le _) ?_ ?_
  · rw [Array.getD_eq_getD_getElem?, Array.getElem?_replicate] at hl
    split at hl <;> simp at hl
  · unfold left
    exact Nat.le_trans (List.length_filter_le _ _) (by simp)
  · have hleft : left l.toArray.size (Array.replicate l.toArray.size false) = List.range l.toArray.size := by
      unfold left
      refine List.filter_eq_self.2 fun i hi => ?_
      have := List.mem_range.1 hi
      rw [Array.getD_eq_getD_getElem?, Array.getElem?_replicate, if_pos this]; rfl
    rw [hleft, List.range_eq_range']
    have := wpOps_eq_wpList (P := P) (ops := l.toArray) (Q := RegQ P l.toArray 0 Q) l 0 (by simp)
    rw [show l.toArray.size = l.length from by simp, this]
    exact h
/-- Its end. -/
theorem fin {a : Act} {w : World} (hc : calmAll P ops n a = true) (h : Q .normal a w) : RegQ P ops n Q .normal a w := ⟨hc, h⟩
end
end Reg
end Go.Proofs.YtlahficmkfgooaaGreat


/- Small laws over any program: a row of the call's own is appended to, or becomes a string. No condition. -/
namespace Go.RowKit
/-- One call more. -/
theorem Below.step {w w1 w2 : World} (h : Below w.heap.size w w1) (k : Below w1.heap.size w1 w2) : Below w.heap.size w w2 := h.trans (k.mono h.size)
end Go.RowKit
namespace Go.Proofs.YtlahficmkfgooaaGreat
open Go.RowKit

/-- What a type's row of the table says: its zero value, its cells, its bytes. -/
def Info (P : Program) (e : TypeId) (z : Value) (size bytes : Nat) : Prop :=
  (P.info? e).map (fun i => (i.zero, i.size, i.bytes)) = some (some z, size, bytes)

/-! Texts: Go's '==' as the walk writes it. -/
theorem str_t {a b : ByteArray} (h : (a.toList == b.toList) = true) : a = b := by
  rw [ByteArray.toList_eq, ByteArray.toList_eq] at h
  exact ByteArray.ext (Array.toList_inj.1 (by simpa using h))
theorem str_f {a b : ByteArray} (h : (a.toList == b.toList) = false) : ¬ a = b := by
  intro e; subst e; simp at h
theorem str_nt {a b : ByteArray} (h : (!(a.toList == b.toList)) = true) : ¬ a = b := str_f (by simpa using h)
theorem str_nf {a b : ByteArray} (h : (!(a.toList == b.toList)) = false) : a = b := str_t (by simpa using h)
theorem str_of {a b : ByteArray} (h : a = b) : (a.toList == b.toList) = true := by subst h; simp
theorem str_ne {a b : ByteArray} (h : ¬ a = b) : (a.toList == b.toList) = false := by
  cases hh : (a.toList == b.toList) with
  | false => rfl
  | true => exact absurd (str_t hh) h

theorem bcell {W w1 : World} (hb : Below W.heap.size W w1) : (∀ b o, b < W.heap.size → w1.cell? ⟨b, o, none⟩ = W.cell? ⟨b, o, none⟩) ∧ (∀ b o, b < W.heap.size → w1.frozen? ⟨b, o, none⟩ = W.frozen? ⟨b, o, none⟩) :=
  ⟨fun b o h => hb.cell (p := ⟨b, o, none⟩) h, fun b o h => hb.frozen (p := ⟨b, o, none⟩) h⟩

/-- 'string(b)', b a row of one byte that was laid just now. -/
theorem run_conv1 {P : Program} {src dst e : TypeId} (hs : P.underlying src = some (.slice e)) (he : P.underlying e = some (.int .u8)) (hd : P.underlying dst = some .string)
    (W : World) (b : Nat) (v : Int) (h : W.cell? ⟨b, 0, none⟩ = some (.int .u8 v)) : (convert src dst (.slice (some ⟨b, 0, none⟩) 1 1)).run P W = .ok (.string ⟨#[UInt8.ofNat v.toNat]⟩) W := by
  rw [run_convert_bytes_string W src dst e _ 1 1 hs he hd]
  have hl : (loadCells ⟨b, 0, none⟩ 1).run P W = .ok ([v].map (Value.int .u8)).toArray W := by
    have := run_loadCells_list (P := P) W ⟨b, 0, none⟩ ([v].map (Value.int .u8)) (fun j u hj => by
      cases j with
      | zero => simp at hj; subst hj; simpa [Addr.add] using h
      | succ j => simp at hj)
    simpa using this
  rw [run_bytesToString W _ 1 1 [v] hl]
  rfl

section
variable {P : Program} {ops : Array Oper} {rest : List Oper} {o : Oper} {a : Act} {Q : Exit → Act → World → Prop}

/-- 's = append(s, x)', x one new cell that was laid just now. -/
theorem wpl_append_one {w0 : World} {y : Value} {e' : TypeId} {s x : Operand} {t e : TypeId} {z : Value} {bytes : Nat} {base : Nat} {v : Value} {n : Nat} {xs : List Value}
    (hgd : o.guard = none) (ho : o.op = .call { callee := .builtin .append, args := #[s, x], argTypes := #[t, t] })
    (hx : a.eval x = .slice (some ⟨w0.heap.size, 0, none⟩) 1 1) (hs : a.eval s = v)
    (ht : P.underlying t = some (.slice e)) (hi : Info P e z 1 bytes) (hz : z.cells.size = 1) (hy : y.oneCell' = true)
    (hown : w0.ownsRow base e 1 v n xs) (hn : n < 2147483648) (hb : bytes ≤ 1024) (hbase : base ≤ w0.heap.size)
    (h : ∀ v' w', w'.ownsRow base e 1 v' (n + 1) (xs ++ [y]) → Below base w0 w' → wpList P ops Q rest (a.put o.dst v') w') :
    wpList P ops Q (o :: rest) a (w0.alloc (.cells #[y] e')) := by
  obtain ⟨i, hi1, hi2, hi3, hi4⟩ := info_parts hi
  refine wpList_append_own _ hgd s x t ho base e i z 1 bytes ht hi1 hi2 hi3 hi4 hz (by decide) v n xs hs (hown.alloc _) _ 1 1 [y] hx rfl (cell_one_new _ _ _) (by simpa using hy)
    (by unfold maxLen; omega) (by have : (n + 1) * bytes ≤ 2147483648 * 1024 := Nat.mul_le_mul (by omega) hb; omega) (by simp; omega) ?_
  intro v' w' h1 h2 _
  refine h v' w' h1 (((Below.refl _ _).alloc hbase _).grown h2 (by simp; omega) ?_)
  intro k hk
  exact (hown.lt k hk).1

/-- 'string(b)', b a row of bytes of the call's own. -/
theorem wpl_bytes_string {w : World} {x : Operand} {src dst e : TypeId} {base : Nat} {v : Value} {n : Nat} (l : List UInt8)
    (hgd : o.guard = none) (ho : o.op = .convert src dst x) (hx : a.eval x = v)
    (hs : P.underlying src = some (.slice e)) (he : P.underlying e = some (.int .u8)) (hd : P.underlying dst = some .string)
    (hown : w.ownsRow base e 1 v n (l.map fun b => .int .u8 b.toNat))
    (h : wpList P ops Q rest (a.put o.dst (.string ⟨l.toArray⟩)) w) : wpList P ops Q (o :: rest) a w := by
  have hr : (convert src dst v).run P w = .ok (.string ⟨l.toArray⟩) w := by
    have hl : l.length = n := by simpa using hown.1
    rcases hown.2 with ⟨rfl, rfl⟩ | ⟨g, cap, cur, rfl, _, hg, _, _, _, htake⟩
    · have : l = [] := List.eq_nil_of_length_eq_zero hl
      subst this
      rw [run_convert_bytes_string w src dst e none 0 0 hs he hd]
      simp [Conv.bytesToString]
      rfl
    · subst hl
      refine run_convert_bytes_back w src dst e _ cap l hs he hd (fun j hj => ?_)
      have hadd : (⟨g, 0, none⟩ : Addr).add j = ⟨g, j, none⟩ := by unfold Addr.add; split <;> simp_all
      rw [hadd, cell_of_row w g j cur e (0, 0) hg]
      have h1 : (l.map fun b => Value.int .u8 (b.toNat : Int))[j]? = some (.int .u8 (l[j].toNat : Int)) := by simp [hj]
      rw [← htake, List.getElem?_take] at h1
      split at h1
      · simpa using h1
      · cases h1
  refine wpList_plain hgd fun K hK => ?_
  unfold Oper.wp execOp
  simp only [ho, hx, Sem.run_bind, hr, Result.andThen_ok, Sem.run_pure]
  exact hK _ _ h
end
end Go.Proofs.YtlahficmkfgooaaGreat


/- A region that draws its order and whose operations read, make memory and call: each is told by what it yields, whatever came between. No condition. -/
namespace Go.Proofs.YtlahficmkfgooaaGreat
namespace Reg
set_option linter.unusedVariables false
open Go.RowKit
/-- What is told of a slot's value, in a world. -/
abbrev Spec := Value → World → Prop
def Is (c : Value) : Spec := fun v _ => v = c
def Grow (w w' : World) : Prop := Below w.heap.size w w'
def Stab (S : Spec) (G : World → World → Prop) : Prop := ∀ v w w', G w w' → S v w → S v w'
def StJ (J : World → Prop) (G : World → World → Prop) : Prop := ∀ w w', G w w' → J w → J w'
def JT : World → Prop := fun _ => True
theorem stj_t (G : World → World → Prop) : StJ JT G := fun _ _ _ _ => trivial
theorem stab_is (c : Value) (G : World → World → Prop) : Stab (Is c) G := fun _ _ _ _ h => h
def look : List (Option Tmp × Spec) → Tmp → Option Spec
  | [], _ => none
  | (d, S) :: r, t => if d = some t then some S else look r t
def Fact (K : List (Option Tmp × Spec)) (a0 : Act) (t : Tmp) (v : Value) (w : World) : Prop :=
  match look K t with
  | some S => S v w
  | none => v = a0.tmps.getD t undef
section
variable {P : Program} {ops : Array Oper} {Q : Exit → Act → World → Prop} {md : Region.Mode} {n : Nat} {I : World → Prop} {a0 : Act} {R : Act → World → Prop}
def OB (P : Program) (ops : Array Oper) (I J : World → Prop) (a0 : Act) (K : List (Option Tmp × Spec)) (o : Oper) (S : Spec) (G : World → World → Prop) : Prop :=
  ∀ a w, I w → J w → (∀ t ∈ o.looksAt ops, Fact K a0 t (a.tmps.getD t undef) w) →
    if Region.wanted o (yielded ops a.tmps) then o.wp P a w (fun a' w' => ∃ v, a' = a.put o.dst v ∧ S v w' ∧ G w w') (fun _ _ _ => False) else S undef w
def Final (R : Act → World → Prop) : List (Option Tmp × Spec) → Act → (World → Prop) → Prop
  | [], A, F => ∀ w, F w → R A w
  | (d, S) :: r, A, F => ∀ v, Final R r (A.put d v) (fun w => F w ∧ S v w)
def Rely (P : Program) (ops : Array Oper) (I : World → Prop) (w0 : World) (a0 : Act) (R : Act → World → Prop) : List Oper → List (Option Tmp × Spec) → List (World → World → Prop) → List (World → Prop) → Prop
  | [], K, _, _ => Final R K a0 I
  | o :: rest, K, Gs, Js =>
    (∃ S, Stab S Grow ∧ (∀ G ∈ Gs, Stab S G) ∧ OB P ops I JT a0 K o S Grow ∧ Rely P ops I w0 a0 R rest ((o.dst, S) :: K) Gs Js) ∨
    (∃ S G J, Stab S Grow ∧ (∀ G' ∈ Gs, Stab S G') ∧ (∀ w w', G w w' → I w → I w') ∧ (∀ p ∈ K, Stab p.2 G) ∧ OB P ops I J a0 K o S G ∧
      (StJ J Grow ∧ J w0 ∧ (∀ G' ∈ Gs, StJ J G') ∧ (∀ J' ∈ Js, StJ J' G)) ∧ Rely P ops I w0 a0 R rest ((o.dst, S) :: K) (G :: Gs) (J :: Js))
/-- What is told of the first k. -/
def Kof (ops : Array Oper) (S : Nat → Spec) : Nat → List (Option Tmp × Spec)
  | 0 => []
  | k + 1 => (((ops[k]?).bind (·.dst)), S k) :: Kof ops S k
theorem Kof_congr {S S' : Nat → Spec} : ∀ k, (∀ j, j < k → S j = S' j) → Kof ops S k = Kof ops S' k := by
  intro k
  induction k with
  | zero => intro _; rfl
  | succ k ih => intro h; simp only [Kof]; rw [h k (by omega), ih fun j hj => h j (by omega)]
structure Told (P : Program) (ops : Array Oper) (I : World → Prop) (a0 : Act) (S : Nat → Spec) (G : Nat → World → World → Prop) (J : Nat → World → Prop) (k : Nat) : Prop where
  inv : ∀ i, i < k → ∀ w w', G i w w' → I w → I w'
  stab : ∀ i j, i < k → j < k → i ≠ j → Stab (S j) (G i)
  ob : ∀ j o, j < k → ops[j]? = some o → OB P ops I (J j) a0 (Kof ops S j) o (S j) (G j)
  keep : ∀ i j, i < k → j < k → i ≠ j → StJ (J j) (G i)
theorem mem_Kof {S : Nat → Spec} {k j : Nat} (h : j < k) : (((ops[j]?).bind (·.dst)), S j) ∈ Kof ops S k := by
  induction k with
  | zero => omega
  | succ k ih =>
    simp only [Kof]
    by_cases hj : j = k
    · subst hj; exact List.mem_cons_self
    · exact List.mem_cons_of_mem _ (ih (by omega))
theorem told_of {w0 : World} (hIG : ∀ w w', Grow w w' → I w → I w') : ∀ (rest : List Oper) (k : Nat) (S : Nat → Spec) (G : Nat → World → World → Prop) (J : Nat → World → Prop) (Gs : List (World → World → Prop)) (Js : List (World → Prop)),
    (∀ j, j < rest.length → ops[k + j]? = rest[j]?) → Told P ops I a0 S G J k → (∀ j, j < k → Stab (S j) Grow) → (∀ i, i < k → G i = Grow ∨ G i ∈ Gs) →
    (∀ j, j < k → StJ (J j) Grow ∧ J j w0 ∧ (J j = JT ∨ J j ∈ Js)) →
    Rely P ops I w0 a0 R rest (Kof ops S k) Gs Js → ∃ S' G' J', Told P ops I a0 S' G' J' (k + rest.length) ∧ (∀ j, j < k + rest.length → J' j w0) ∧ Final R (Kof ops S' (k + rest.length)) a0 I := by
  intro rest
  induction rest with
  | nil => intro k S G J Gs Js _ ht _ _ hJ h; exact ⟨S, G, J, ht, fun j hj => (hJ j hj).2.1, h⟩
  | cons o rest ih =>
    intro k S G J Gs Js hops ht hgrow hGs hJ h
    have hk : ops[k]? = some o := by have := hops 0 (by simp); simpa using this
    -- the new one told
    have step : ∀ (Sn : Spec) (Gn : World → World → Prop) (Gs' : List (World → World → Prop)) (Jn : World → Prop) (Js' : List (World → Prop)), Stab Sn Grow → (∀ G ∈ Gs, Stab Sn G) → (∀ w w', Gn w w' → I w → I w') → (∀ j, j < k → Stab (S j) Gn) →
        OB P ops I Jn a0 (Kof ops S k) o Sn Gn → (Gn = Grow ∨ Gn ∈ Gs') → (∀ G ∈ Gs, G ∈ Gs') →
        (StJ Jn Grow ∧ Jn w0 ∧ (∀ G' ∈ Gs, StJ Jn G') ∧ (∀ j, j < k → StJ (J j) Gn)) → (Jn = JT ∨ Jn ∈ Js') → (∀ G ∈ Js, G ∈ Js') → Rely P ops I w0 a0 R rest ((o.dst, Sn) :: Kof ops S k) Gs' Js' →
        ∃ S' G' J', Told P ops I a0 S' G' J' (k + (o :: rest).length) ∧ (∀ j, j < k + (o :: rest).length → J' j w0) ∧ Final R (Kof ops S' (k + (o :: rest).length)) a0 I := by
      intro Sn Gn Gs' Jn Js' h1 h2 h3 h4 h5 h6 h7 h9 h10 h11 h8
      let S1 : Nat → Spec := fun j => if j = k then Sn else S j
      let G1 : Nat → World → World → Prop := fun j => if j = k then Gn else G j
      let J1 : Nat → World → Prop := fun j => if j = k then Jn else J j
      have eJ : ∀ j, j < k → J1 j = J j := fun j hj => by simp only [J1]; rw [if_neg (by omega)]
      have eJk : J1 k = Jn := if_pos rfl
      have eS : ∀ j, j < k → S1 j = S j := fun j hj => by simp only [S1]; rw [if_neg (by omega)]
      have eG : ∀ j, j < k → G1 j = G j := fun j hj => by simp only [G1]; rw [if_neg (by omega)]
      have eSk : S1 k = Sn := if_pos rfl
      have eGk : G1 k = Gn := if_pos rfl
      have eK : ∀ j, j ≤ k → Kof ops S1 j = Kof ops S j := fun j hj => Kof_congr j fun i hi => eS i (by omega)
      have hK : Kof ops S1 (k + 1) = (o.dst, Sn) :: Kof ops S k := by simp only [Kof, hk, Option.bind_some, eSk, eK k (Nat.le_refl _)]
      have htold : Told P ops I a0 S1 G1 J1 (k + 1) := by
        refine ⟨fun i hi w w' hg hI => ?_, fun i j hi hj hne => ?_, fun j oj hj hoj => ?_, fun i j hi hj hne => ?_⟩
        · by_cases hik : i = k
          · subst hik; rw [eGk] at hg; exact h3 w w' hg hI
          · rw [eG i (by omega)] at hg; exact ht.inv i (by omega) w w' hg hI
        · by_cases hik : i = k
          · subst hik; rw [eGk, eS j (by omega)]; exact h4 j (by omega)
          · rw [eG i (by omega)]
            by_cases hjk : j = k
            · subst hjk; rw [eSk]
              rcases hGs i (by omega) with e | e
              · rw [e]; exact h1
              · exact h2 _ e
            · rw [eS j (by omega)]; exact ht.stab i j (by omega) (by omega) hne
        · by_cases hjk : j = k
          · subst hjk; rw [eSk, eGk, eJk, eK j (Nat.le_refl _)]
            have : oj = o := Option.some.inj (hoj.symm.trans hk)
            subst this; exact h5
          · rw [eS j (by omega), eG j (by omega), eJ j (by omega), eK j (by omega)]; exact ht.ob j oj (by omega) hoj
        · by_cases hik : i = k
          · subst hik; rw [eGk, eJ j (by omega)]; exact h9.2.2.2 j (by omega)
          · rw [eG i (by omega)]
            by_cases hjk : j = k
            · subst hjk; rw [eJk]
              rcases hGs i (by omega) with e | e
              · rw [e]; exact h9.1
              · exact h9.2.2.1 _ e
            · rw [eJ j (by omega)]; exact ht.keep i j (by omega) (by omega) hne
      have := ih (k + 1) S1 G1 J1 Gs' Js' (fun j hj => by have := hops (j + 1) (by simp; omega); rw [show k + 1 + j = k + (j + 1) from by omega, this]; simp) htold
        (fun j hj => by
          by_cases hjk : j = k
          · subst hjk; rw [eSk]; exact h1
          · rw [eS j (by omega)]; exact hgrow j (by omega))
        (fun i hi => by
          by_cases hik : i = k
          · subst hik; rw [eGk]; exact h6
          · rw [eG i (by omega)]
            rcases hGs i (by omega) with e | e
            · exact .inl e
            · exact .inr (h7 _ e))
        (fun j hj => by
          by_cases hjk : j = k
          · subst hjk; rw [eJk]; exact ⟨h9.1, h9.2.1, h10⟩
          · rw [eJ j (by omega)]
            have := hJ j (by omega)
            exact ⟨this.1, this.2.1, this.2.2.imp id (h11 _)⟩)
        (by rw [hK]; exact h8)
      rw [show k + (o :: rest).length = k + 1 + rest.length from by simp; omega]
      exact this
    rcases h with ⟨Sn, h1, h2, h3, h4⟩ | ⟨Sn, Gn, Jn, h1, h2, h3, h4, h5, h7, h6⟩
    · exact step Sn Grow Gs JT Js h1 h2 hIG hgrow h3 (.inl rfl) (fun _ h => h) ⟨stj_t _, trivial, fun _ _ => stj_t _, fun j hj => (hJ j hj).1⟩ (.inl rfl) (fun _ h => h) h4
    · exact step Sn Gn (Gn :: Gs) Jn (Jn :: Js) h1 h2 h3 (fun j hj => h4 _ (mem_Kof hj)) h5 (.inr List.mem_cons_self) (fun _ h => List.mem_cons_of_mem _ h)
        ⟨h7.1, h7.2.1, h7.2.2.1, fun j hj => by
          rcases (hJ j hj).2.2 with e | e
          · rw [e]; exact stj_t _
          · exact h7.2.2.2 _ e⟩ (.inr List.mem_cons_self) (fun _ h => List.mem_cons_of_mem _ h) h6

/-! ### The check -/
def readsOk (md : Region.Mode) (ops : Array Oper) (n : Nat) (i : Nat) : Bool :=
  match ops[i]? with
  | some oi => (oi.looksAt ops).all fun t => (List.range n).all fun j =>
    (match ops[j]? with | some oj => oj.dst != some t || (decide (j < i) && ahead md ops ops.size j i) || (decide (i < j) && ahead md ops ops.size i j) | none => true)
  | none => false
def distOk (ops : Array Oper) (n : Nat) (i : Nat) : Bool :=
  (List.range n).all fun j => i == j || (match ops[i]?, ops[j]? with | some oi, some oj => oi.dst == none || oi.dst != oj.dst | _, _ => true)
def relyOk (P : Program) (md : Region.Mode) (ops : Array Oper) (n m : Nat) : Bool :=
  textOk P md ops n && decide (n ≤ ops.size) && (List.range n).all fun i => readsOk md ops n i && distOk ops n i &&
    ((List.range ops.size).all fun t => decide (t < n) || ahead md ops ops.size i t) &&
    (match (ops[i]?).bind (·.dst) with | some d => decide (d < m) | none => true)
structure BodyOk (P : Program) (md : Region.Mode) (ops : Array Oper) (n m : Nat) : Prop where
  ok : Ok P md ops n
  le : n ≤ ops.size
  reads : ∀ i oi, i < n → ops[i]? = some oi → ∀ t ∈ oi.looksAt ops, ∀ j oj, j < n → ops[j]? = some oj → oj.dst = some t → (j < i ∧ ahead md ops ops.size j i = true) ∨ (i < j ∧ ahead md ops ops.size i j = true)
  dist : ∀ i j oi oj d, i < n → j < n → i ≠ j → ops[i]? = some oi → ops[j]? = some oj → oi.dst = some d → oj.dst ≠ some d
  tail : ∀ i t, i < n → n ≤ t → t < ops.size → ahead md ops ops.size i t = true
  bound : ∀ i oi d, i < n → ops[i]? = some oi → oi.dst = some d → d < m
theorem bodyOk_of {m : Nat} (h : relyOk P md ops n m = true) : BodyOk P md ops n m := by
  unfold relyOk at h
  simp only [Bool.and_eq_true, decide_eq_true_eq, List.all_eq_true, List.mem_range] at h
  obtain ⟨⟨h1, h2⟩, h3⟩ := h
  refine ⟨ok_of h1, h2, fun i oi hi hoi t ht j oj hj hoj hd => ?_, fun i j oi oj d hi hj hne hoi hoj hd hd' => ?_, fun i t hi ht htl => ?_, fun i oi d hi hoi hd => ?_⟩
  · have := (h3 i hi).1.1.1
    unfold readsOk at this
    rw [hoi] at this
    simp only [List.all_eq_true, List.mem_range] at this
    have := this t ht j hj
    rw [hoj] at this
    simp only [Bool.or_eq_true, Bool.and_eq_true, decide_eq_true_eq, hd] at this
    rcases this with (h | h) | h
    · simp at h
    · exact .inl h
    · exact .inr h
  · have := (h3 i hi).1.1.2
    unfold distOk at this
    simp only [List.all_eq_true, List.mem_range, Bool.or_eq_true, beq_iff_eq] at this
    rcases this j hj with h | h
    · exact hne h
    · rw [hoi, hoj] at h
      simp only [hd, hd'] at h
      simp at h
  · have := (h3 i hi).1.2 t htl
    simp only [Bool.or_eq_true, decide_eq_true_eq] at this
    exact this.resolve_left (by omega)
  · have := (h3 i hi).2
    rw [hoi] at this
    simp only [Option.bind_some, hd, decide_eq_true_eq] at this
    exact this

/-! ### The theorem -/
def Holds (d : Option Tmp) (S : Spec) (a : Act) (w : World) : Prop :=
  match d with
  | some t => S (a.tmps.getD t undef) w
  | none => ∃ v, S v w
theorem act_ext {a b : Act} (hs : a.tmps.size = b.tmps.size) (hd : a.defers = b.defers) (h : ∀ t, a.tmps.getD t undef = b.tmps.getD t undef) : a = b := by
  cases a with | mk ta da => cases b with | mk tb db =>
  simp only at hs hd h
  subst hd
  congr 1
  apply Array.ext hs
  intro i h1 h2
  have := h i
  simpa [Array.getD_eq_getD_getElem?, h1, h2] using this
theorem put_size (a : Act) (d : Option Tmp) (v : Value) : (a.put d v).tmps.size = a.tmps.size := by cases d <;> simp [Act.put]
theorem put_defers' (a : Act) (d : Option Tmp) (v : Value) : (a.put d v).defers = a.defers := by cases d <;> rfl
theorem put_getD_ne (a : Act) (d : Option Tmp) (v : Value) (t : Nat) (h : d ≠ some t) : (a.put d v).tmps.getD t undef = a.tmps.getD t undef := by
  cases d with
  | none => rfl
  | some d =>
    have hne : d ≠ t := fun e => h (by rw [e])
    simp only [Act.put, Array.getD_eq_getD_getElem?, Array.getElem?_setIfInBounds_ne hne]
theorem put_getD_eq (a : Act) (t : Nat) (v : Value) (h : t < a.tmps.size) : (a.put (some t) v).tmps.getD t undef = v := by
  simp [Act.put, Array.getD_eq_getD_getElem?, h]
theorem final_use : ∀ (K : List (Option Tmp × Spec)) (A : Act) (F : World → Prop), Final R K A F → ∀ (a : Act) (w : World), a.tmps.size = A.tmps.size → a.defers = A.defers → F w →
    (∀ p ∈ K, Holds p.1 p.2 a w) → (∀ t, (∀ p ∈ K, p.1 ≠ some t) → a.tmps.getD t undef = A.tmps.getD t undef) → R a w := by
  intro K
  induction K with
  | nil =>
    intro A F h a w hs hd hF _ hag
    have : a = A := act_ext hs hd fun t => hag t fun p hp => by cases hp
    subst this; exact h w hF
  | cons p K ih =>
    intro A F h a w hs hd hF hh hag
    obtain ⟨d, S⟩ := p
    have h0 : Holds d S a w := hh _ List.mem_cons_self
    cases d with
    | none =>
      obtain ⟨v, hv⟩ := h0
      exact ih _ _ (h v) a w hs hd ⟨hF, hv⟩ (fun p hp => hh p (List.mem_cons_of_mem _ hp)) fun t ht => hag t fun p hp => by
        rcases List.mem_cons.1 hp with rfl | hp
        · simp
        · exact ht p hp
    | some d =>
      refine ih _ _ (h (a.tmps.getD d undef)) a w (by rw [put_size]; exact hs) (by rw [put_defers']; exact hd) ⟨hF, h0⟩ (fun p hp => hh p (List.mem_cons_of_mem _ hp)) fun t ht => ?_
      by_cases htd : d = t
      · subst htd
        rcases Nat.lt_or_ge d A.tmps.size with hlt | hge
        · rw [put_getD_eq _ _ _ hlt]
        · rw [Array.getD_eq_getD_getElem?, Array.getElem?_eq_none (by omega), Array.getD_eq_getD_getElem?, Array.getElem?_eq_none (by rw [put_size]; exact hge)]
      · rw [put_getD_ne _ _ _ _ (by simpa using htd)]
        exact hag t fun p hp => by
          rcases List.mem_cons.1 hp with rfl | hp
          · simpa using htd
          · exact ht p hp
theorem look_Kof {S : Nat → Spec} {t : Tmp} : ∀ (k : Nat), (∀ S', look (Kof ops S k) t = some S' → ∃ j, j < k ∧ (ops[j]?).bind (·.dst) = some t ∧ S' = S j) ∧ (look (Kof ops S k) t = none → ∀ j, j < k → (ops[j]?).bind (·.dst) ≠ some t) := by
  intro k
  induction k with
  | zero => exact ⟨fun _ h => by simp [Kof, look] at h, fun _ j hj => by omega⟩
  | succ k ih =>
    simp only [Kof, look]
    constructor
    · intro S' h
      split at h
      · rename_i e; cases h; exact ⟨k, by omega, e, rfl⟩
      · obtain ⟨j, hj, h1, h2⟩ := ih.1 S' h; exact ⟨j, by omega, h1, h2⟩
    · intro h j hj
      split at h
      · cases h
      · rename_i e
        by_cases hjk : j = k
        · subst hjk; exact e
        · exact ih.2 h j (by omega)
structure Inv (ops : Array Oper) (n : Nat) (S : Nat → Spec) (J : Nat → World → Prop) (I : World → Prop) (a0 : Act) (listed : Array Bool) (a : Act) (w : World) : Prop where
  size : a.tmps.size = a0.tmps.size
  defers : a.defers = a0.defers
  inv : I w
  done : ∀ j o, j < n → listed.getD j false = true → ops[j]? = some o → Holds o.dst (S j) a w
  rest : ∀ t, (∀ j o, j < n → listed.getD j false = true → ops[j]? = some o → o.dst ≠ some t) → a.tmps.getD t undef = a0.tmps.getD t undef
  tail : ∀ t, n ≤ t → t < ops.size → listed.getD t true = false
  pre : ∀ j, j < n → listed.getD j true = false → J j w
theorem wp_up {o : Oper} {a : Act} {w : World} {K K' : Act → World → Prop} (hK : ∀ a w, K a w → K' a w) (h : o.wp P a w K (fun _ _ _ => False)) : o.wp P a w K' Q := by
  unfold Oper.wp at h ⊢
  generalize (execOp a.eval o).run P w = r at h
  cases r with
  | ok n w' =>
    cases n <;> simp only [Oper.upon] at h ⊢
    case value v => exact hK _ _ h
    case skip => exact hK _ _ h
    case defer d => exact hK _ _ h
    case enter f args =>
      refine Calls.mono h fun e w'' hR => ?_
      cases e with
      | returned v => exact hK _ _ hR
      | panicked c => exact hR.elim
      | outgrown => obtain ⟨_, _, h⟩ := hR; exact h.elim
    case row row args => exact Rows.mono h fun v w'' hR => hK _ _ hR
  | halt x w' => cases x <;> simp only [Oper.upon] at h
theorem rely_any {S : Nat → Spec} {G : Nat → World → World → Prop} {J : Nat → World → Prop} (bo : BodyOk P md ops n a0.tmps.size) (ht : Told P ops I a0 S G J n)
    (hf : Final (fun a w => wpOps P ops (RegQ P ops n Q) (List.range' n (ops.size - n)) a w) (Kof ops S n) a0 I) :
    ∀ (fuel : Nat) (listed : Array Bool) (a : Act) (w : World), Closed md ops listed → (left ops.size listed).length ≤ fuel → Inv ops n S J I a0 listed a w → wpAny P md ops Q fuel listed a w := by
  intro fuel
  -- when the body is done
  have fin : ∀ (fuel : Nat) (listed : Array Bool) (a : Act) (w : World), Closed md ops listed → (left ops.size listed).length ≤ fuel → Inv ops n S J I a0 listed a w → (∀ j, j < n → listed.getD j false = true) → wpAny P md ops Q fuel listed a w := by
    intro fuel listed a w hc hlen inv hall
    have hleft : left ops.size listed = List.range' n (ops.size - n) := by
      have h1 : List.range ops.size = List.range n ++ List.range' n (ops.size - n) := by
        rw [List.range_eq_range', List.range_eq_range']
        have := List.range'_append (s := 0) (m := n) (n := ops.size - n) (step := 1)
        simp only [Nat.zero_add, Nat.one_mul] at this
        rw [this]; congr 1; have := bo.le; omega
      unfold left
      rw [h1, List.filter_append]
      have e1 : (List.range n).filter (fun i => !listed.getD i true) = [] := List.filter_eq_nil_iff.2 fun i hi => by
        have hin := List.mem_range.1 hi
        have := hall i hin
        have hlt : i < listed.size := by rw [hc.1]; have := bo.le; omega
        simp [hlt] at this ⊢; exact this
      have e2 : (List.range' n (ops.size - n)).filter (fun i => !listed.getD i true) = List.range' n (ops.size - n) := List.filter_eq_self.2 fun i hi => by
        have := List.mem_range'_1.1 hi
        rw [inv.tail i this.1 (by omega)]; rfl
      rw [e1, e2]; rfl
    refine text_any bo.ok fuel listed a w hc (fun k hk => by rw [hleft] at hk; exact (List.mem_range'_1.1 hk).1) hlen ?_
    rw [hleft]
    refine final_use _ _ _ hf a w inv.size inv.defers inv.inv (fun p hp => ?_) fun t htt => ?_
    · have : ∀ k, k ≤ n → p ∈ Kof ops S k → Holds p.1 p.2 a w := by
        intro k
        induction k with
        | zero => intro _ h; cases h
        | succ k ih =>
          intro hk h
          simp only [Kof] at h
          rcases List.mem_cons.1 h with rfl | h
          · have hlt : k < ops.size := by have := bo.le; omega
            have hok : ops[k]? = some ops[k] := Array.getElem?_eq_getElem hlt
            have := inv.done k _ (by omega) (hall k (by omega)) hok
            rw [hok]; exact this
          · exact ih (by omega) h
      exact this n (Nat.le_refl _) hp
    · exact inv.rest t fun j o hj _ hoj hd => htt _ (mem_Kof (S := S) hj) (by simp only [hoj, Option.bind_some]; exact hd)
  induction fuel with
  | zero =>
    intro listed a w hc hlen inv
    refine fin 0 listed a w hc hlen inv fun j hj => ?_
    cases hl : listed.getD j false with
    | true => rfl
    | false =>
      exfalso
      have hlt : j < ops.size := by have := bo.le; omega
      have : j ∈ left ops.size listed := mem_left.2 ⟨hlt, by
        have : j < listed.size := by rw [hc.1]; exact hlt
        simp [this] at hl ⊢; exact hl⟩
      have hnil : left ops.size listed = [] := List.eq_nil_of_length_eq_zero (by omega)
      rw [hnil] at this; cases this
  | succ fuel ih =>
    intro listed a w hc hlen inv
    by_cases hall : ∀ j, j < n → listed.getD j false = true
    · exact fin _ listed a w hc hlen inv hall
    · obtain ⟨b, hb⟩ := Classical.not_forall.1 hall
      obtain ⟨hbn, hbl⟩ := Classical.not_imp.1 hb
      have hbf : listed.getD b false = false := by simpa using hbl
      have hblt : b < ops.size := by have := bo.le; omega
      have hbt : listed.getD b true = false := by
        have : b < listed.size := by rw [hc.1]; exact hblt
        simp [this] at hbf ⊢; exact hbf
      refine ⟨fun hr => ?_, fun i hir => ?_⟩
      · exfalso
        -- some operation may come
        have hm : b ∈ left ops.size listed := mem_left.2 ⟨hblt, hbt⟩
        cases hl : left ops.size listed with
        | nil => rw [hl] at hm; cases hm
        | cons i L =>
          have hi := mem_left.1 (hl ▸ List.mem_cons_self : i ∈ left ops.size listed)
          have hoi : ops[i]? = some ops[i] := Array.getElem?_eq_getElem hi.1
          have : i ∈ Region.ready md ops listed := mem_ready.2 ⟨hi.2, _, hoi, fun e he hb => by
            have hlt := bo.ok.edge i _ hoi e he hb
            cases hge : listed.getD e.on false with
            | true => rfl
            | false =>
              exfalso
              have hm : e.on ∈ left ops.size listed := mem_left.2 ⟨by omega, by
                rw [Array.getD_eq_getD_getElem?, Array.getElem?_eq_getElem (by rw [hc.1]; omega)] at hge ⊢; exact hge⟩
              rw [hl] at hm
              rcases List.mem_cons.1 hm with h | h
              · omega
              · have hs := left_sorted ops.size listed
                rw [hl, List.pairwise_cons] at hs
                have := hs.1 _ h
                omega⟩
          rw [hr] at this; cases this
      · obtain ⟨hun, oi, hi, hdeps⟩ := mem_ready.1 hir
        have hilt : i < ops.size := (Array.getElem?_eq_some_iff.1 hi).1
        have hin : i < n := by
          rcases Nat.lt_or_ge i n with h | h
          · exact h
          · have := ahead_listed hc _ _ _ _ hi hdeps (bo.tail b i hbn h hilt)
            rw [hbf] at this; cases this
        have hclosed' : Closed md ops (listed.setIfInBounds i true) := by
          refine ⟨by simp [hc.1], fun j oj hj hl e he hb => ?_⟩
          by_cases hij : i = j
          · subst hij
            have : oj = oi := Option.some.inj (hj.symm.trans hi)
            subst this
            exact getD_set_true (hdeps e he hb)
          · rw [getD_set_ne false hij] at hl
            exact getD_set_true (hc.2 j oj hj hl e he hb)
        have hlen' : (left ops.size (listed.setIfInBounds i true)).length ≤ fuel := by
          have hm : i ∈ left ops.size listed := mem_left.2 ⟨hilt, hun⟩
          obtain ⟨pre, post, hsplit⟩ := List.append_of_mem hm
          rw [left_set hc.1 hsplit]
          rw [hsplit] at hlen
          simp only [List.length_append, List.length_cons] at hlen ⊢
          omega
        have hself : (listed.setIfInBounds i true).getD i false = true := by
          have : i < listed.size := by rw [hc.1]; exact hilt
          simp [Array.getD_eq_getD_getElem?, this]
        -- what it looks at is as told
        have hfacts : ∀ t ∈ oi.looksAt ops, Fact (Kof ops S i) a0 t (a.tmps.getD t undef) w := by
          intro t htl
          unfold Fact
          cases hlk : look (Kof ops S i) t with
          | some S' =>
            obtain ⟨j, hj, hdj, rfl⟩ := (look_Kof i).1 S' hlk
            cases hoj : ops[j]? with
            | none => rw [hoj] at hdj; cases hdj
            | some oj =>
              rw [hoj] at hdj
              simp only [Option.bind_some] at hdj
              have hlj : listed.getD j false = true := by
                rcases bo.reads i oi hin hi t htl j oj (by omega) hoj hdj with ⟨_, h⟩ | ⟨h, _⟩
                · exact ahead_listed hc _ _ _ _ hi hdeps h
                · omega
              have := inv.done j oj (by omega) hlj hoj
              rw [hdj] at this
              exact this
          | none =>
            have hno := (look_Kof i).2 hlk
            refine inv.rest t fun j oj hjn hlj hoj hd => ?_
            rcases bo.reads i oi hin hi t htl j oj hjn hoj hd with ⟨h, _⟩ | ⟨h, hah⟩
            · exact hno j h (by rw [hoj]; exact hd)
            · have hdj := hc.2 j oj hoj hlj
              have := ahead_listed hc _ _ _ _ hoj hdj hah
              rw [getD_tf hun] at this; cases this
        have hob := ht.ob i oi hin hi a w inv.inv (inv.pre i hin hun) hfacts
        -- the invariant behind it
        have hinv : ∀ v w', S i v w' → (w' = w ∨ G i w w') → Inv ops n S J I a0 (listed.setIfInBounds i true) (a.put oi.dst v) w' := by
          intro v w' hS hG
          refine ⟨by rw [put_size]; exact inv.size, by rw [put_defers']; exact inv.defers, ?_, fun j oj hj hl hoj => ?_, fun t htt => ?_, fun t ht1 ht2 => ?_, fun j hj hl => ?_⟩
          · rcases hG with rfl | hG
            · exact inv.inv
            · exact ht.inv i hin w w' hG inv.inv
          · by_cases hij : i = j
            · subst hij
              have : oj = oi := Option.some.inj (hoj.symm.trans hi)
              subst this
              unfold Holds
              cases hd : oj.dst with
              | none => exact ⟨v, hS⟩
              | some d =>
                simp only
                rw [put_getD_eq _ _ _ (by rw [inv.size]; exact bo.bound i oj d hin hi hd)]
                exact hS
            · rw [getD_set_ne false hij] at hl
              have h0 := inv.done j oj hj hl hoj
              have hst := ht.stab i j hin hj hij
              unfold Holds at h0 ⊢
              cases hd : oj.dst with
              | none =>
                rw [hd] at h0
                obtain ⟨u, hu⟩ := h0
                rcases hG with rfl | hG
                · exact ⟨u, hu⟩
                · exact ⟨u, hst u w w' hG hu⟩
              | some d =>
                rw [hd] at h0
                simp only at h0 ⊢
                rw [put_getD_ne _ _ _ _ (bo.dist j i oj oi d hj hin (fun e => hij e.symm) hoj hi hd)]
                rcases hG with rfl | hG
                · exact h0
                · exact hst _ w w' hG h0
          · rw [put_getD_ne _ _ _ _ (htt i oi hin hself hi)]
            exact inv.rest t fun j oj hj hl hoj => htt j oj hj (by
              by_cases hij : i = j
              · subst hij; exact hself
              · rw [getD_set_ne false hij]; exact hl) hoj
          · rw [getD_set_ne true (by omega)]; exact inv.tail t ht1 ht2
          · by_cases hij : i = j
            · subst hij
              have hlt : i < listed.size := by rw [hc.1]; exact hilt
              simp [Array.getD_eq_getD_getElem?, hlt] at hl
            · rw [getD_set_ne true hij] at hl
              have h0 := inv.pre j hj hl
              rcases hG with rfl | hG
              · exact h0
              · exact ht.keep i j hin hj hij w w' hG h0
        unfold wpOp
        rw [hi]
        simp only
        split at hob
        · rename_i hw
          rw [if_pos hw]
          refine .inl (wp_up (fun a' w' h' => ?_) hob)
          obtain ⟨v, rfl, hS, hG⟩ := h'
          exact ih _ _ _ hclosed' hlen' (hinv v w' hS (.inr hG))
        · rename_i hw
          rw [if_neg hw]
          exact ih _ _ _ hclosed' hlen' (hinv undef w hob (.inl rfl))
/-- A REGION THAT DRAWS ITS ORDER, BY WHAT EACH OPERATION YIELDS. The first n of its operations in whatever order, the others behind them as in the text. -/
theorem wp_rely (n : Nat) (I : World → Prop) {id : Nat} {l : List Oper} {w : World} (hm : P.follows .mixedOrders = true) (hok : relyOk P .any l.toArray n a0.tmps.size = true)
    (hI : I w.drew) (hIG : ∀ w w', Grow w w' → I w → I w')
    (h : Rely P l.toArray I w.drew a0 (fun A w => wpList P l.toArray (RegQ P l.toArray n Q) (l.drop n) A w) (l.take n) [] [] []) : (Code.region id l.toArray true).wp P Q a0 w := by
  have bo := bodyOk_of hok
  have hnl : n ≤ l.length := by simpa using bo.le
  have htail : ∀ A w, wpList P l.toArray (RegQ P l.toArray n Q) (l.drop n) A w → wpOps P l.toArray (RegQ P l.toArray n Q) (List.range' n (l.toArray.size - n)) A w := by
    intro A w h
    have := wpOps_eq_wpList (P := P) (ops := l.toArray) (Q := RegQ P l.toArray n Q) (l.drop n) n (by simp)
    rw [List.length_drop] at this
    rw [show l.toArray.size - n = l.length - n from by simp, this]
    exact h
  obtain ⟨S, G, J, ht, hJ0, hf⟩ := told_of (w0 := w.drew) (P := P) (ops := l.toArray) (R := fun A w => wpList P l.toArray (RegQ P l.toArray n Q) (l.drop n) A w) hIG (l.take n) 0 (fun _ _ _ => True) (fun _ => Grow) (fun _ => JT) [] []
    (fun j hj => by
      rw [List.length_take] at hj
      simp only [Nat.zero_add, List.getElem?_toArray]
      rw [List.getElem?_take, if_pos (by omega)]) ⟨fun i hi => by omega, fun i j hi => by omega, fun j o hj => by omega, fun i j hi => by omega⟩ (fun j hj => by omega) (fun i hi => by omega) (fun j hj => by omega) h
  have hlen : 0 + (l.take n).length = n := by rw [List.length_take]; omega
  rw [hlen] at ht hf hJ0
  have final_mono : ∀ (K : List (Option Tmp × Spec)) (A : Act) (F : World → Prop), Final (fun A w => wpList P l.toArray (RegQ P l.toArray n Q) (l.drop n) A w) K A F →
      Final (fun A w => wpOps P l.toArray (RegQ P l.toArray n Q) (List.range' n (l.toArray.size - n)) A w) K A F := by
    intro K
    induction K with
    | nil => intro A F h w hF; exact htail A w (h w hF)
    | cons p K ih => intro A F h v; exact ih _ _ (h v)
  refine wp_region_any hm (rely_any bo ht (final_mono _ _ _ hf) l.toArray.size _ a0 _ ⟨by simp, fun j oj hj hl => ?_⟩ ?_ ⟨rfl, rfl, hI, fun j o hj hl => ?_, fun _ _ => rfl, fun t _ ht => ?_, fun j hj _ => hJ0 j hj⟩)
  · rw [Array.getD_eq_getD_getElem?, Array.getElem?_replicate] at hl
    split at hl <;> simp at hl
  · unfold left
    exact Nat.le_trans (List.length_filter_le _ _) (by simp)
  · rw [Array.getD_eq_getD_getElem?, Array.getElem?_replicate] at hl
    split at hl <;> simp at hl
  · rw [Array.getD_eq_getD_getElem?, Array.getElem?_replicate, if_pos (by simpa using ht)]; rfl

/-! ### Its steps -/
theorem rely_nil {K : List (Option Tmp × Spec)} {Gs : List (World → World → Prop)} {Js : List (World → Prop)} {w0 : World} (h : Final R K a0 I) : Rely P ops I w0 a0 R [] K Gs Js := h
/-- An operation that yields one value, whatever the world in which I holds, and leaves the world. -/
theorem rely_is {o : Oper} {rest : List Oper} {K : List (Option Tmp × Spec)} {Gs : List (World → World → Prop)} {Js : List (World → Prop)} {w0 : World} (c : Value)
    (h : ∀ a w, I w → (∀ t ∈ o.looksAt ops, Fact K a0 t (a.tmps.getD t undef) w) → Det P ops o a w c)
    (hr : Rely P ops I w0 a0 R rest ((o.dst, Is c) :: K) Gs Js) : Rely P ops I w0 a0 R (o :: rest) K Gs Js := by
  refine .inl ⟨Is c, stab_is c _, fun G _ => stab_is c G, fun a w hI _ hF => ?_, hr⟩
  rcases h a w hI hF with ⟨hw, hrun⟩ | ⟨hw, rfl⟩
  · rw [if_pos hw]
    unfold Oper.wp
    rw [hrun]
    exact ⟨c, rfl, rfl, Below.refl _ _⟩
  · rw [if_neg (by simp [hw])]; rfl
theorem det_plain {o : Oper} {a : Act} {w : World} {v : Value} (hg : o.guard = none) (h : (execOp a.eval o).run P w = .ok (.value v) w) : Det P ops o a w v := .inl ⟨by simp [Region.wanted, hg], h⟩
/-- An operation that makes memory, or calls what does. -/
theorem rely_rel {o : Oper} {rest : List Oper} {K : List (Option Tmp × Spec)} {Gs : List (World → World → Prop)} {Js : List (World → Prop)} {w0 : World} (S : Spec) (hS : Stab S Grow) (hG : ∀ G ∈ Gs, Stab S G) (hg : o.guard = none)
    (h : ∀ a w, I w → (∀ t ∈ o.looksAt ops, Fact K a0 t (a.tmps.getD t undef) w) → o.wp P a w (fun a' w' => ∃ v, a' = a.put o.dst v ∧ S v w' ∧ Grow w w') (fun _ _ _ => False))
    (hr : Rely P ops I w0 a0 R rest ((o.dst, S) :: K) Gs Js) : Rely P ops I w0 a0 R (o :: rest) K Gs Js :=
  .inl ⟨S, hS, hG, fun a w hI _ hF => by rw [if_pos (by simp [Region.wanted, hg])]; exact h a w hI hF, hr⟩
/-- One that turns something that was there, out of a state that nothing else turns. -/
theorem rely_turn {o : Oper} {rest : List Oper} {K : List (Option Tmp × Spec)} {Gs : List (World → World → Prop)} {Js : List (World → Prop)} {w0 : World} (S : Spec) (G : World → World → Prop) (J : World → Prop) (hS : Stab S Grow) (hG : ∀ G ∈ Gs, Stab S G) (hI : ∀ w w', G w w' → I w → I w')
    (hK : ∀ p ∈ K, Stab p.2 G) (hg : o.guard = none) (hJ : StJ J Grow) (hJ0 : J w0) (hJG : ∀ G' ∈ Gs, StJ J G') (hJJ : ∀ J' ∈ Js, StJ J' G)
    (h : ∀ a w, I w → J w → (∀ t ∈ o.looksAt ops, Fact K a0 t (a.tmps.getD t undef) w) → o.wp P a w (fun a' w' => ∃ v, a' = a.put o.dst v ∧ S v w' ∧ G w w') (fun _ _ _ => False))
    (hr : Rely P ops I w0 a0 R rest ((o.dst, S) :: K) (G :: Gs) (J :: Js)) : Rely P ops I w0 a0 R (o :: rest) K Gs Js :=
  .inr ⟨S, G, J, hS, hG, hI, hK, fun a w hI hJ hF => by rw [if_pos (by simp [Region.wanted, hg])]; exact h a w hI hJ hF, ⟨hJ, hJ0, hJG, hJJ⟩, hr⟩
theorem final_nil {A : Act} {F : World → Prop} (h : ∀ w, F w → R A w) : Final R [] A F := h
theorem final_is {d : Option Tmp} {c : Value} {K : List (Option Tmp × Spec)} {A : Act} {F : World → Prop} (h : Final R K (A.put d c) F) : Final R ((d, Is c) :: K) A F := by
  intro v
  have mono : ∀ (K : List (Option Tmp × Spec)) (A : Act) (F F' : World → Prop), (∀ w, F' w → F w) → Final R K A F → Final R K A F' := by
    intro K
    induction K with
    | nil => intro A F F' hF h w hw; exact h w (hF w hw)
    | cons p K ih => intro A F F' hF h v; exact ih _ _ _ (fun w hw => ⟨hF w hw.1, hw.2⟩) (h v)
  by_cases hv : v = c
  · subst hv; exact mono K _ F _ (fun w hw => hw.1) h
  · have none : ∀ (K : List (Option Tmp × Spec)) (A : Act) (F : World → Prop), (∀ w, ¬ F w) → Final R K A F := by
      intro K
      induction K with
      | nil => intro A F hF w hw; exact absurd hw (hF w)
      | cons p K ih => intro A F hF v; exact ih _ _ fun w hw => hF w hw.1
    exact none K _ _ fun w hw => hv hw.2
theorem final_rel {d : Option Tmp} {S : Spec} {K : List (Option Tmp × Spec)} {A : Act} {F : World → Prop} (h : ∀ v, Final R K (A.put d v) (fun w => F w ∧ S v w)) : Final R ((d, S) :: K) A F := h
end
end Reg
end Go.Proofs.YtlahficmkfgooaaGreat


/- Blocks known whole, and worlds that differ in some blocks alone: small laws over any program. No condition. -/
namespace Go.Proofs.YtlahficmkfgooaaGreat
open Go.RowKit
set_option linter.unusedVariables false

/-- Block b holds the cells A. -/
def Blk (w : World) (b : Nat) (T : TypeId) (A : Array Value) : Prop := w.heap[b]? = some (.cells A T (0, 0))
theorem Blk.cell {w : World} {b : Nat} {T : TypeId} {A : Array Value} (h : Blk w b T A) (o : Nat) : w.cell? ⟨b, o, none⟩ = A[o]? := by
  unfold Blk at h; simp [World.cell?, h]
theorem Blk.frozen {w : World} {b : Nat} {T : TypeId} {A : Array Value} (h : Blk w b T A) (o : Nat) : w.frozen? ⟨b, o, none⟩ = false := by
  unfold Blk at h; simp [World.frozen?, h]
theorem Blk.lt {w : World} {b : Nat} {T : TypeId} {A : Array Value} (h : Blk w b T A) : b < w.heap.size := (Array.getElem?_eq_some_iff.1 h).1
theorem Blk.set {w : World} {b : Nat} {T : TypeId} {A : Array Value} (h : Blk w b T A) (o : Nat) (v : Value) : Blk (w.setCell ⟨b, o, none⟩ v) b T (A.setIfInBounds o v) := by
  unfold Blk at h ⊢
  simp [World.setCell, Array.getElem?_modify, h]
theorem Blk.set_ne {w : World} {b : Nat} {T : TypeId} {A : Array Value} (h : Blk w b T A) {p : Addr} (v : Value) (hne : b ≠ p.block) : Blk (w.setCell p v) b T A := by
  unfold Blk at h ⊢; rw [Below.heap_setCell _ _ _ _ hne]; exact h
theorem Blk.alloc {w : World} {b : Nat} {T : TypeId} {A : Array Value} (h : Blk w b T A) (o : Obj) : Blk (w.alloc o) b T A := by
  have := h.lt
  unfold Blk at h ⊢; rw [Below.heap_alloc _ _ _ this]; exact h
theorem Blk.drew {w : World} {b : Nat} {T : TypeId} {A : Array Value} (h : Blk w b T A) : Blk w.drew b T A := h
theorem Blk.new (w : World) (T : TypeId) (A : Array Value) : Blk (w.alloc (.cells A T)) w.heap.size T A := heap_alloc_new w _

/-- The worlds differ in new blocks and in those of S alone. -/
structure Only (S : Nat → Prop) (w w' : World) : Prop where
  os : w'.os = w.os
  tape : w'.tape = w.tape
  output : w'.output = w.output
  size : w.heap.size ≤ w'.heap.size
  block : ∀ k, k < w.heap.size → ¬ S k → w'.heap[k]? = w.heap[k]?
theorem Only.refl (S : Nat → Prop) (w : World) : Only S w w := ⟨rfl, rfl, rfl, Nat.le_refl _, fun _ _ _ => rfl⟩
theorem Only.trans {S : Nat → Prop} {a b c : World} (h : Only S a b) (k : Only S b c) : Only S a c :=
  ⟨k.os.trans h.os, k.tape.trans h.tape, k.output.trans h.output, Nat.le_trans h.size k.size, fun i hi hs => (k.block i (Nat.lt_of_lt_of_le hi h.size) hs).trans (h.block i hi hs)⟩
theorem Only.mono {S S' : Nat → Prop} {w w' : World} (h : Only S w w') (hs : ∀ k, k < w.heap.size → S k → S' k) : Only S' w w' :=
  ⟨h.os, h.tape, h.output, h.size, fun k hk hn => h.block k hk fun hk' => hn (hs k hk hk')⟩
theorem Only.of_below {S : Nat → Prop} {w w' : World} (h : Below w.heap.size w w') : Only S w w' := ⟨h.os, h.tape, h.output, h.size, fun k hk _ => h.block k hk⟩
theorem Only.below {S : Nat → Prop} {w w' : World} {B : Nat} (h : Only S w w') (hB : B ≤ w.heap.size) (hs : ∀ k, S k → B ≤ k) : Below B w w' :=
  ⟨h.os, h.tape, h.output, h.size, fun k hk => h.block k (by omega) fun hs' => by have := hs k hs'; omega⟩
theorem Only.drew {S : Nat → Prop} {a w : World} (h : Only S a w) : Only S a w.drew := ⟨h.os, h.tape, h.output, h.size, h.block⟩
theorem Only.alloc {S : Nat → Prop} {a w : World} (h : Only S a w) (o : Obj) : Only S a (w.alloc o) :=
  ⟨h.os, h.tape, h.output, by have := h.size; simp; omega, fun k hk hs => by rw [Below.heap_alloc _ _ _ (by have := h.size; omega)]; exact h.block k hk hs⟩
theorem Only.setCell {S : Nat → Prop} {a w : World} (h : Only S a w) {p : Addr} (hp : S p.block ∨ a.heap.size ≤ p.block) (v : Value) : Only S a (w.setCell p v) :=
  ⟨h.os, h.tape, h.output, by have := h.size; simp [World.setCell]; omega, fun k hk hs => by
    rw [Below.heap_setCell _ _ _ _ (by rcases hp with hp | hp
                                       · intro e; subst e; exact hs hp
                                       · omega)]
    exact h.block k hk hs⟩
theorem Only.set1 {b : Nat} {a w : World} (h : Only (· = b) a w) {o : Nat} {v : Value} : Only (· = b) a (w.setCell ⟨b, o, none⟩ v) := h.setCell (p := ⟨b, o, none⟩) (Or.inl rfl) v
theorem Only.step {S : Nat → Prop} {w w1 w2 : World} (h : Only S w w1) (k : Below w1.heap.size w1 w2) : Only S w w2 := h.trans (.of_below k)
theorem Only.stepB {S : Nat → Prop} {w w1 w2 : World} {B : Nat} (h : Only S w w1) (k : Below B w1 w2) (hB : w.heap.size ≤ B) : Only S w w2 :=
  ⟨k.os.trans h.os, k.tape.trans h.tape, k.output.trans h.output, Nat.le_trans h.size k.size, fun i hi hs => (k.block i (by omega)).trans (h.block i hi hs)⟩
theorem Blk.only {S : Nat → Prop} {w w' : World} {b : Nat} {T : TypeId} {A : Array Value} (h : Blk w b T A) (ho : Only S w w') (hs : ¬ S b) : Blk w' b T A := by
  have := h.lt
  unfold Blk at h ⊢; rw [ho.block b this hs]; exact h
theorem Blk.below {w w' : World} {b : Nat} {T : TypeId} {A : Array Value} (h : Blk w b T A) (ho : Below w.heap.size w w') : Blk w' b T A := by
  have := h.lt
  unfold Blk at h ⊢; rw [ho.block b this]; exact h
theorem Blk.belowB {B : Nat} {w w' : World} {b : Nat} {T : TypeId} {A : Array Value} (h : Blk w b T A) (ho : Below B w w') (hb : b < B) : Blk w' b T A := by
  unfold Blk at h ⊢; rw [ho.block b hb]; exact h
section
variable {P : Program} {ops : Array Oper} {rest : List Oper} {o : Oper} {a : Act} {Q : Exit → Act → World → Prop}
/-- 's = append(s, x)', x a row of cells that was laid just now. -/
theorem wpl_append_row {w0 : World} {ys : List Value} {e' : TypeId} {s x : Operand} {t e : TypeId} {z : Value} {size bytes : Nat} {base : Nat} {v : Value} {n : Nat} {xs : List Value} {nb : Nat}
    (hgd : o.guard = none) (ho : o.op = .call { callee := .builtin .append, args := #[s, x], argTypes := #[t, t] })
    (hx : a.eval x = .slice (some ⟨nb, 0, none⟩) 1 1) (hs : a.eval s = v)
    (ht : P.underlying t = some (.slice e)) (hi : Info P e z size bytes) (hz : z.cells.size = size) (hy : ys.all (·.oneCell') = true) (hl : ys.length = 1 * size) (hsz : 0 < size) (hb : bytes ≤ 1024)
    (hown : w0.ownsRow base e size v n xs) (hn : n < 2147483648) (hbase : base ≤ w0.heap.size) (hnb : nb = w0.heap.size)
    (h : ∀ v' w', w'.ownsRow base e size v' (n + 1) (xs ++ ys) → Below base w0 w' → wpList P ops Q rest (a.put o.dst v') w') :
    wpList P ops Q (o :: rest) a (w0.alloc (.cells ys.toArray e')) := by
  subst hnb
  obtain ⟨i, hi1, hi2, hi3, hi4⟩ := info_parts hi
  refine wpList_append_own _ hgd s x t ho base e i z size bytes ht hi1 hi2 hi3 hi4 hz hsz v n xs hs (hown.alloc _) _ 1 1 ys hx hl ?_ (fun u hu => List.all_eq_true.1 hy u hu)
    (by unfold maxLen; omega) (by have : (n + 1) * bytes ≤ 2147483648 * 1024 := Nat.mul_le_mul (by omega) hb; omega) (by simp; omega) ?_
  · intro j u hj
    have : (⟨w0.heap.size, 0, none⟩ : Addr).add j = ⟨w0.heap.size, j, none⟩ := by unfold Addr.add; split <;> simp_all
    rw [this, (Blk.new w0 e' ys.toArray).cell j]; simpa using hj
  intro v' w' h1 h2 _
  refine h v' w' h1 (((Below.refl _ _).alloc hbase _).grown h2 (by simp; omega) ?_)
  intro k hk
  exact (hown.lt k hk).1
end
/-! ### Whole arrays and records, out of the middle of a block -/
section
variable {P : Program} {ops : Array Oper} {rest : List Oper} {o : Oper} {a : Act} {w : World} {Q : Exit → Act → World → Prop}
theorem run_loadVar_part (g off : Nat) (ty : TypeId) (cs : List Value) (d : TypeDesc) (hc : ∀ j v, cs[j]? = some v → w.cell? ⟨g, off + j, none⟩ = some v)
    (hu : P.underlying ty = some d) (hd : (match d with | .struct _ | .array _ _ => true | _ => false) = true) (hi : (P.info? ty).map (·.size) = some cs.length) :
    (loadVar ty ⟨g, off, none⟩).run P w = .ok (.agg cs.toArray) w := by
  have hl : (loadCells ⟨g, off, none⟩ cs.length).run P w = .ok cs.toArray w :=
    run_loadCells_list (P := P) w ⟨g, off, none⟩ cs (fun j v hv => by
      have hadd : (⟨g, off, none⟩ : Addr).add j = ⟨g, off + j, none⟩ := by unfold Addr.add; split <;> simp_all
      rw [hadd]; exact hc j v hv)
  cases hq : P.info? ty with
  | none => simp [hq] at hi
  | some i =>
    have hs : i.size = cs.length := by simpa [hq] using hi
    have hagg : (isAgg ty).run P w = .ok true w := by
      unfold isAgg
      rw [Sem.run_bind, run_underlying hu w]
      cases d <;> simp_all
    simp [loadVar, Sem.run_bind, hagg, sizeOf, typeInfo, hq, hs, hl]
theorem wpl_load_part (hgd : o.guard = none) (ty : TypeId) (x : Operand) (ho : o.op = .load ty x) (g off : Nat) (hx : a.eval x = .pointer (some ⟨g, off, none⟩)) (cs : List Value) (d : TypeDesc)
    (hc : ∀ j v, cs[j]? = some v → w.cell? ⟨g, off + j, none⟩ = some v)
    (hu : P.underlying ty = some d) (hd : (match d with | .struct _ | .array _ _ => true | _ => false) = true) (hi : (P.info? ty).map (·.size) = some cs.length)
    (h : wpList P ops Q rest (a.put o.dst (.agg cs.toArray)) w) : wpList P ops Q (o :: rest) a w :=
  wpList_plain hgd fun K hK => by
    unfold Oper.wp execOp
    simp only [ho, hx, Instr.loadAt, Instr.sureAddr, Sem.run_bind, Sem.run_pure, Result.andThen_ok, run_loadVar_part g off ty cs d hc hu hd hi]
    exact hK _ _ h
/-- One record out of an array's cells. -/
theorem run_index_part {xt e : TypeId} {n m k : Nat} (F ys : Array Value) (d : TypeDesc) (hu : P.underlying xt = some (.array n e)) (he : P.underlying e = some d) (hd : (match d with | .struct _ | .array _ _ => true | _ => false) = true)
    (hi : (P.info? e).map (·.size) = some m) (hk : k < n) (hF : F.extract (k * m) (k * m + m) = ys) : (Instr.index xt (.agg F) (.int .i64 k)).run P w = .ok (.agg ys) w := by
  cases hq : P.info? e with
  | none => simp [hq] at hi
  | some i =>
    have hs : i.size = m := by simpa [hq] using hi
    have hagg : (isAgg e).run P w = .ok true w := by
      unfold isAgg
      rw [Sem.run_bind, run_underlying he w]
      cases d <;> simp_all
    have h1 : (0 : Int) ≤ k ∧ (k : Int) < n := by omega
    have h2 : (k : Int).toNat * m = k * m := by simp
    simp [Instr.index, Sem.run_bind, asIntOf, run_underlying hu, h1, part, hagg, sizeOf, typeInfo, hq, hs, hF]
    omega
end
/-- The k-th of rows of equal length. -/
theorem flat_extract {α β : Type} (f : α → List β) (m : Nat) (hf : ∀ x, (f x).length = m) (l : List α) (k : Nat) (h : k < l.length) : (l.flatMap f).toArray.extract (k * m) (k * m + m) = (f l[k]).toArray := by
  have hdrop : ∀ (l : List α) (k : Nat) (h : k < l.length), (l.flatMap f).drop (k * m) = f l[k] ++ (l.drop (k + 1)).flatMap f := by
    intro l
    induction l with
    | nil => intro k h; simp at h
    | cons x l ih =>
      intro k h
      cases k with
      | zero => simp
      | succ k =>
        have : (k + 1) * m = (f x).length + k * m := by rw [hf, Nat.succ_mul]; omega
        rw [List.flatMap_cons, this, List.drop_append, List.drop_eq_nil_of_le (by omega)]
        simp only [List.nil_append, Nat.add_sub_cancel_left, List.getElem_cons_succ, List.drop_succ_cons]
        exact ih k (by simpa using h)
  apply Array.ext'
  rw [Array.toList_extract]
  simp only [List.extract_eq_take_drop, Nat.add_sub_cancel_left]
  rw [hdrop l k h, List.take_append, List.take_of_length_le (by rw [hf]; exact Nat.le_refl _), hf, Nat.sub_self]
  simp
theorem setCell_size (w : World) (p : Addr) (v : Value) : (w.setCell p v).heap.size = w.heap.size := by simp [World.setCell]
end Go.Proofs.YtlahficmkfgooaaGreat


/- Numbers as bytes, in plain terms: what is written, what is read, and that each is the other's. No condition. -/
namespace Go.Proofs.YtlahficmkfgooaaGreat
namespace Num

def lebF : Nat → Nat → List UInt8
  | 0, x => [UInt8.ofNat x]
  | n + 1, x => if x < 128 then [UInt8.ofNat x] else UInt8.ofNat (x % 128 + 128) :: lebF n (x / 128)
/-- The bytes of a number. -/
def leb (x : Nat) : List UInt8 := lebF x x
theorem lebF_fuel (n : Nat) : ∀ m x, x ≤ n → x ≤ m → lebF n x = lebF m x := by
  induction n with
  | zero => intro m x h1 h2; have : x = 0 := by omega
            subst this; cases m <;> simp [lebF]
  | succ n ih =>
    intro m x h1 h2
    cases m with
    | zero => have : x = 0 := by omega
              subst this; simp [lebF]
    | succ m =>
      simp only [lebF]
      split
      · rfl
      · rw [ih m (x / 128) (by omega) (by omega)]
theorem leb_lt (x : Nat) (h : x < 128) : leb x = [UInt8.ofNat x] := by
  unfold leb; cases x with
  | zero => rfl
  | succ n => simp only [lebF]; rw [if_pos h]
theorem leb_ge (x : Nat) (h : 128 ≤ x) : leb x = UInt8.ofNat (x % 128 + 128) :: leb (x / 128) := by
  unfold leb; cases x with
  | zero => omega
  | succ n => simp only [lebF]; rw [if_neg (by omega), lebF_fuel n ((n+1)/128) _ (by omega) (by omega)]
theorem leb_pos (x : Nat) : 1 ≤ (leb x).length := by
  by_cases h : x < 128
  · rw [leb_lt x h]; simp
  · rw [leb_ge x (by omega)]; simp
/-- As text. -/
def lebS (x : Int) : ByteArray := ⟨(leb x.toNat).toArray⟩

/-- The number that bytes stand for, the least seven bits first. -/
def val : List UInt8 → Nat
  | [] => 0
  | b :: r => b.toNat % 128 + 128 * val r
theorem ofNat_toNat (n : Nat) (h : n < 256) : (UInt8.ofNat n).toNat = n := by
  simp [UInt8.toNat_ofNat']; omega

/-- How many bytes at the front go on. -/
def ups : List UInt8 → Nat
  | [] => 0
  | b :: r => if 128 ≤ b.toNat then ups r + 1 else 0
theorem ups_le (l : List UInt8) : ups l ≤ l.length := by
  induction l with
  | nil => simp [ups]
  | cons b r ih => simp only [ups]; split <;> simp <;> omega
/-- What is read at the front: the number, how many bytes, why there is none (0, 10 short, 8 form). -/
def rd (l : List UInt8) : Nat × Nat × Nat :=
  let k := ups l
  if k < 10 ∧ k = l.length then (0, 0, 10)
  else if 10 ≤ k then (0, 0, 8)
  else
    let last := ((l[k]?).getD 0).toNat
    if last = 0 ∧ 1 ≤ k then (0, 0, 8)
    else if k = 9 ∧ 1 < last then (0, 0, 8)
    else (val (l.take (k + 1)), k + 1, 0)

def zig (x : Int) : Int := if 0 ≤ x then 2 * x else -2 * x - 1
def zag (u : Int) : Int := if u % 2 = 0 then u / 2 else - (u / 2) - 1
theorem zag_zig (x : Int) : zag (zig x) = x := by unfold zag zig; split <;> split <;> omega
theorem zig_zag (u : Int) (h : 0 ≤ u) : zig (zag u) = u := by unfold zag zig; split <;> split <;> omega
theorem zig_range (x : Int) (h1 : -9223372036854775808 ≤ x) (h2 : x ≤ 9223372036854775807) : 0 ≤ zig x ∧ zig x ≤ 18446744073709551615 := by unfold zig; split <;> omega
theorem zag_range (u : Int) (h1 : 0 ≤ u) (h2 : u ≤ 18446744073709551615) : -9223372036854775808 ≤ zag u ∧ zag u ≤ 9223372036854775807 := by unfold zag; split <;> omega

theorem val_leb (n : Nat) : ∀ x, x ≤ n → val (leb x) = x := by
  induction n with
  | zero => intro x h; have : x = 0 := by omega
            subst this; rfl
  | succ n ih =>
    intro x h
    by_cases hx : x < 128
    · rw [leb_lt x hx]; simp only [val]; rw [ofNat_toNat _ (by omega)]; omega
    · rw [leb_ge x (by omega)]; simp only [val]; rw [ofNat_toNat _ (by omega), ih (x / 128) (by omega)]; omega
theorem val_leb' (x : Nat) : val (leb x) = x := val_leb x x (Nat.le_refl _)
theorem leb_inj {x y : Nat} (h : leb x = leb y) : x = y := by rw [← val_leb' x, h, val_leb']
/-- The form of a number's bytes: all but the last go on; the last is not 0, unless it is the only one. -/
theorem leb_form (n : Nat) : ∀ x, x ≤ n → ∀ s, ups (leb x ++ s) + 1 = (leb x).length ∧ (∃ c, (leb x)[ups (leb x ++ s)]? = some c ∧ (c.toNat = 0 → x = 0) ∧ c.toNat < 128) := by
  induction n with
  | zero => intro x h s; have : x = 0 := by omega
            subst this; rw [leb_lt 0 (by omega)]; simp [ups]
  | succ n ih =>
    intro x h s
    by_cases hx : x < 128
    · rw [leb_lt x hx]
      have hu : ups ([UInt8.ofNat x] ++ s) = 0 := by
        simp only [List.cons_append, List.nil_append, ups]; rw [ofNat_toNat _ (by omega), if_neg (by omega)]
      rw [hu]
      refine ⟨rfl, _, rfl, ?_⟩
      rw [ofNat_toNat _ (by omega)]; omega
    · rw [leb_ge x (by omega)]
      obtain ⟨h1, c, h2, h3, h4⟩ := ih (x / 128) (by omega) s
      have hu : ups (UInt8.ofNat (x % 128 + 128) :: leb (x / 128) ++ s) = ups (leb (x / 128) ++ s) + 1 := by
        simp only [List.cons_append, ups]; rw [ofNat_toNat _ (by omega), if_pos (by omega)]
      rw [hu]
      refine ⟨by simp; omega, c, by simpa using h2, fun h => ?_, h4⟩
      have := h3 h; omega
/-- A number below 2^(7k) has at most k bytes, and one that is not has more. -/
theorem leb_len (k : Nat) : ∀ x, x < 128 ^ (k + 1) → (leb x).length ≤ k + 1 := by
  induction k with
  | zero => intro x h; rw [leb_lt x (by simpa using h)]; simp
  | succ k ih =>
    intro x h
    by_cases hx : x < 128
    · rw [leb_lt x hx]; simp
    · rw [leb_ge x (by omega)]
      have := ih (x / 128) (by rw [Nat.pow_succ] at h; omega)
      simp; omega
theorem leb_len10 (x : Nat) (h : x < 18446744073709551616) : (leb x).length ≤ 10 :=
  leb_len 9 x (by have : (128 : Nat) ^ (9 + 1) = 1180591620717411303424 := by decide
                  omega)
theorem leb_mono (n : Nat) : ∀ x y, y ≤ n → x ≤ y → (leb x).length ≤ (leb y).length := by
  induction n with
  | zero => intro x y h1 h2; have : x = y := by omega
            rw [this]; exact Nat.le_refl _
  | succ n ih =>
    intro x y h1 h2
    by_cases hx : x < 128
    · rw [leb_lt x hx]; exact leb_pos y
    · rw [leb_ge x (by omega), leb_ge y (by omega)]
      have := ih (x / 128) (y / 128) (by omega) (by omega)
      simp; omega
theorem take_append_self {α : Type} (l s : List α) : (l ++ s).take l.length = l := by simp
theorem last_small (k : Nat) : ∀ x, (leb x).length = k + 1 → x < 18446744073709551616 → ∀ c, (leb x)[k]? = some c → k = 9 → c.toNat ≤ 1 := by
  intro x h hx c hc hk
  subst hk
  have key : ∀ k x, (leb x).length = k + 1 → ∀ c, (leb x)[k]? = some c → c.toNat = x / 128 ^ k := by
    intro k
    induction k with
    | zero =>
      intro x h c hc
      by_cases h' : x < 128
      · rw [leb_lt x h'] at hc; simp at hc; rw [← hc, ofNat_toNat _ (by omega)]; simp
      · rw [leb_ge x (by omega)] at h; have := leb_pos (x / 128); simp only [List.length_cons] at h; omega
    | succ k ih =>
      intro x h c hc
      by_cases h' : x < 128
      · rw [leb_lt x h'] at h; simp at h
      · rw [leb_ge x (by omega)] at h hc
        rw [ih (x / 128) (by simpa using h) c (by simpa using hc), Nat.div_div_eq_div_mul, Nat.pow_succ, Nat.mul_comm]
  have := key 9 x h c hc
  have h2 : (128 : Nat) ^ 9 = 9223372036854775808 := by decide
  rw [h2] at this
  omega
/-- What was written is read as itself, whatever stands behind. -/
theorem rd_leb (x : Nat) (hx : x < 18446744073709551616) (s : List UInt8) : rd (leb x ++ s) = (x, (leb x).length, 0) := by
  obtain ⟨h1, c, h2, h3, h4⟩ := leb_form x x (Nat.le_refl _) s
  have h10 := leb_len10 x hx
  have hp := leb_pos x
  generalize hk : ups (leb x ++ s) = k at h1 h2
  have hg : ((leb x ++ s)[k]?).getD 0 = c := by rw [List.getElem?_append_left (by omega), h2]; rfl
  unfold rd
  simp only [hk, hg]
  rw [if_neg (by simp; omega), if_neg (by omega), if_neg ?_, if_neg ?_]
  · rw [h1, take_append_self, val_leb']
  · rintro ⟨h9, hc⟩
    have := last_small k x h1.symm hx c h2 h9
    omega
  · rintro ⟨h9, hc⟩
    have h0 := h3 h9
    subst h0
    rw [leb_lt 0 (by omega)] at h1
    simp at h1; omega
/-- What is cut off is short. -/
theorem ups_take (n : Nat) : ∀ x, x ≤ n → ∀ i, i < (leb x).length → ups ((leb x).take i) = i := by
  induction n with
  | zero => intro x h i hi; have : x = 0 := by omega
            subst this; rw [leb_lt 0 (by omega)] at hi ⊢; have : i = 0 := by simpa using hi
            subst this; rfl
  | succ n ih =>
    intro x h i hi
    by_cases hx : x < 128
    · rw [leb_lt x hx] at hi ⊢; have : i = 0 := by simpa using hi
      subst this; rfl
    · rw [leb_ge x (by omega)] at hi ⊢
      cases i with
      | zero => rfl
      | succ i =>
        simp only [List.take_succ_cons, ups]
        rw [ofNat_toNat _ (by omega), if_pos (by omega), ih (x / 128) (by omega) i (by simpa using hi)]
theorem rd_short (x : Nat) (hx : x < 18446744073709551616) (i : Nat) (hi : i < (leb x).length) : rd ((leb x).take i) = (0, 0, 10) := by
  have h := ups_take x x (Nat.le_refl _) i hi
  have h10 := leb_len10 x hx
  unfold rd
  simp only [h]
  rw [if_pos]
  simp; omega
/-- Bytes that go on, then one that does not and is not 0 (or stands alone) are a number's own. -/
theorem leb_val (l : List UInt8) : ∀ k, ups l = k → k < l.length → (((l[k]?).getD 0).toNat = 0 → k = 0) → leb (val (l.take (k + 1))) = l.take (k + 1) := by
  induction l with
  | nil => intro k _ h; simp at h
  | cons b r ih =>
    intro k hu hl h0
    simp only [ups] at hu
    split at hu
    · rename_i hb
      subst hu
      have hlr : ups r < r.length := by simpa using hl
      have h0' : ((r[ups r]?).getD 0).toNat = 0 → ups r = 0 := fun h => by have := h0 (by simpa using h); omega
      have hi := ih (ups r) rfl hlr h0'
      have hpos : 1 ≤ val (r.take (ups r + 1)) := by
        rcases Nat.eq_zero_or_pos (val (r.take (ups r + 1))) with hz | hz
        · exfalso
          rw [hz, leb_lt 0 (by omega)] at hi
          have hlen : (r.take (ups r + 1)).length = 1 := by rw [← hi]; rfl
          have hz2 : ups r = 0 := by simp at hlen; omega
          rw [hz2] at hi hlr
          have : (r[0]?).getD 0 = 0 := by
            cases r with
            | nil => simp at hlr
            | cons c r => simp at hi; simp [← hi]
          have := h0 (by simp [hz2, this])
          omega
        · exact hz
      rw [List.take_succ_cons]
      simp only [val]
      have hbl := b.toNat_lt
      rw [leb_ge _ (by omega)]
      have e1 : (b.toNat % 128 + 128 * val (r.take (ups r + 1))) / 128 = val (r.take (ups r + 1)) := by omega
      have e2 : (b.toNat % 128 + 128 * val (r.take (ups r + 1))) % 128 + 128 = b.toNat := by omega
      rw [e1, e2, hi]
      simp
    · subst hu
      rename_i hb
      simp only [Nat.zero_add, List.take_succ_cons, List.take_zero, val]
      rw [leb_lt _ (by omega)]
      have e : b.toNat % 128 + 128 * 0 = b.toNat := by omega
      rw [e]; simp
theorem val_lt (l : List UInt8) : val l < 128 ^ l.length := by
  induction l with
  | nil => simp [val]
  | cons b r ih => simp only [val, List.length_cons, Nat.pow_succ]; omega
theorem val_take_succ (l : List UInt8) : ∀ k, k < l.length → val (l.take (k + 1)) = val (l.take k) + 128 ^ k * (((l[k]?).getD 0).toNat % 128) := by
  induction l with
  | nil => intro k h; simp at h
  | cons b r ih =>
    intro k h
    cases k with
    | zero => simp [val]
    | succ k =>
      have := ih k (by simpa using h)
      simp only [List.take_succ_cons, val, this, List.getElem?_cons_succ, Nat.pow_succ, Nat.mul_add]
      rw [show 128 ^ k * 128 * ((r[k]?.getD 0).toNat % 128) = 128 * (128 ^ k * ((r[k]?.getD 0).toNat % 128)) from by rw [Nat.mul_comm (128 ^ k) 128, Nat.mul_assoc]]
      omega
/-- Bytes that are read are the number's own. -/
theorem rd_ok {l : List UInt8} {x n : Nat} (h : rd l = (x, n, 0)) : n ≤ l.length ∧ leb x = l.take n ∧ x < 18446744073709551616 ∧ 1 ≤ n := by
  have hu := ups_le l
  unfold rd at h
  simp only at h
  split at h
  · simp at h
  · rename_i h1
    split at h
    · simp at h
    · rename_i h2
      split at h
      · simp at h
      · rename_i h3
        split at h
        · simp at h
        · rename_i h4
          simp only [Prod.mk.injEq, and_true] at h
          obtain ⟨rfl, rfl⟩ := h
          have hlt : ups l < l.length := by omega
          refine ⟨by omega, leb_val l _ rfl hlt (fun h => by omega), ?_, by omega⟩
          rw [val_take_succ l _ hlt]
          have hv := val_lt (l.take (ups l))
          rw [List.length_take, Nat.min_eq_left (by omega)] at hv
          by_cases h9 : ups l = 9
          · rw [h9] at hv h4 ⊢
            have e : (128 : Nat) ^ 9 = 9223372036854775808 := by decide
            rw [e] at hv ⊢
            have : ((l[9]?).getD 0).toNat % 128 ≤ 1 := by omega
            omega
          · have e : (128 : Nat) ^ 9 = 9223372036854775808 := by decide
            have : 128 ^ ups l * 128 ≤ 128 ^ 9 := by rw [← Nat.pow_succ]; exact Nat.pow_le_pow_right (by omega) (by omega)
            have h5 : ((l[ups l]?).getD 0).toNat % 128 ≤ 127 := by omega
            have h6 := Nat.mul_le_mul_left (128 ^ ups l) h5
            omega
theorem rd_err {l : List UInt8} : (rd l).2.2 = 0 ∨ ((rd l).1 = 0 ∧ (rd l).2.1 = 0) := by
  unfold rd; simp only; repeat' split
  all_goals simp
/-- The number of bytes, reckoned of the bits. -/
theorem leb_bits (k : Nat) : ∀ x, 128 ^ k ≤ x → k + 1 ≤ (leb x).length := by
  induction k with
  | zero => intro x _; exact leb_pos x
  | succ k ih =>
    intro x h
    have h128 : 128 ≤ x := Nat.le_trans (by rw [Nat.pow_succ]; exact Nat.le_mul_of_pos_left _ (Nat.pow_pos (by decide))) h
    rw [leb_ge x h128]
    have := ih (x / 128) (by rw [Nat.pow_succ] at h; omega)
    simp; omega
/-! What the program's reader finds at its loop's head: 'Up l k': the first k bytes go on. -/
def Up (l : List UInt8) (k : Nat) : Prop := k ≤ ups l
theorem up_zero (l : List UInt8) : Up l 0 := Nat.zero_le _
theorem ups_of (l : List UInt8) : ∀ k, Up l k → ∀ h : k < l.length, ups l = if 128 ≤ (l[k]).toNat then ups l else k := by
  induction l with
  | nil => intro k _ h; simp at h
  | cons b r ih =>
    intro k hk h
    cases k with
    | zero => simp only [List.getElem_cons_zero, ups]; split <;> rfl
    | succ k =>
      simp only [Up, ups] at hk
      split at hk
      · rename_i hb
        simp only [ups, if_pos hb, List.getElem_cons_succ]
        have := ih k (by simp only [Up]; omega) (by simpa using h)
        split <;> rename_i h2
        · rfl
        · rw [if_neg h2] at this; omega
      · omega
theorem up_succ {l : List UInt8} {k : Nat} (hk : Up l k) (h : k < l.length) (hb : 128 ≤ (l[k]).toNat) : Up l (k + 1) := by
  induction l generalizing k with
  | nil => simp at h
  | cons b r ih =>
    cases k with
    | zero => simp only [List.getElem_cons_zero] at hb; simp only [Up, ups, if_pos hb]; omega
    | succ k =>
      simp only [Up, ups] at hk ⊢
      split at hk
      · rename_i hb2
        rw [if_pos hb2]
        have := ih (k := k) (by simp only [Up]; omega) (by simpa using h) (by simpa using hb)
        simp only [Up] at this; omega
      · omega
theorem ups_at {l : List UInt8} {k : Nat} (hk : Up l k) (h : k < l.length) (hb : (l[k]).toNat < 128) : ups l = k := by
  rw [ups_of l k hk h, if_neg (by omega)]
theorem ups_end {l : List UInt8} {k : Nat} (hk : Up l k) (h : k = l.length) : ups l = k := by
  have := ups_le l; simp only [Up] at hk; omega
theorem rd_end {l : List UInt8} {k : Nat} (hk : Up l k) (h : k = l.length) (h10 : k < 10) : rd l = (0, 0, 10) := by
  have := ups_end hk h
  simp only [rd, this]; rw [if_pos ⟨h10, h⟩]
theorem rd_far {l : List UInt8} {k : Nat} (hk : Up l k) (h10 : 10 ≤ k) : rd l = (0, 0, 8) := by
  simp only [Up] at hk
  simp only [rd]; rw [if_neg (by omega), if_pos (by omega)]
theorem rd_at {l : List UInt8} {k : Nat} (hk : Up l k) (h : k < l.length) (h10 : k < 10) (hb : (l[k]).toNat < 128) :
    rd l = if (l[k]).toNat = 0 ∧ 1 ≤ k then (0, 0, 8) else if k = 9 ∧ 1 < (l[k]).toNat then (0, 0, 8) else (val (l.take (k + 1)), k + 1, 0) := by
  have hu := ups_at hk h hb
  have hg : (l[k]?).getD 0 = l[k] := by simp [h]
  simp only [rd, hu, hg]
  rw [if_neg (by omega), if_neg (by omega)]
theorem val_step {l : List UInt8} {k : Nat} (h : k < l.length) : val (l.take (k + 1)) = val (l.take k) + 128 ^ k * ((l[k]).toNat % 128) := by
  rw [val_take_succ l k h]; simp [h]
theorem val_take_lt (l : List UInt8) (k : Nat) : val (l.take k) < 128 ^ k := by
  have h := val_lt (l.take k)
  refine Nat.lt_of_lt_of_le h (Nat.pow_le_pow_right (by omega) (by simp; omega))
/-- The document's reader: the bytes' number, going round, has these bytes just where the bytes are in form. -/
theorem rd_ref {l : List UInt8} {k : Nat} (hk : Up l k) (h : k < l.length) (h10 : k < 10) (hb : (l[k]).toNat < 128) :
    (leb (val (l.take (k + 1)) % 18446744073709551616) = l.take (k + 1) → rd l = (val (l.take (k + 1)) % 18446744073709551616, k + 1, 0)) ∧
    (leb (val (l.take (k + 1)) % 18446744073709551616) ≠ l.take (k + 1) → rd l = (0, 0, 8)) := by
  have hr := rd_at hk h h10 hb
  constructor
  · intro e
    have h2 := rd_leb (val (l.take (k + 1)) % 18446744073709551616) (by omega) (l.drop (k + 1))
    rw [e, List.take_append_drop] at h2
    rw [h2]; simp; omega
  · intro e
    rw [hr]
    split
    · rfl
    · split
      · rfl
      · rename_i h1 h2
        exfalso
        have h3 : rd l = (val (l.take (k + 1)), k + 1, 0) := by rw [hr, if_neg h1, if_neg h2]
        obtain ⟨_, h5, h6, _⟩ := rd_ok h3
        rw [Nat.mod_eq_of_lt h6] at e
        exact e h5
theorem val_drop {l : List UInt8} {i : Nat} (h : i < l.length) : val (l.drop i) = (l[i]).toNat % 128 + 128 * val (l.drop (i + 1)) := by
  rw [List.drop_eq_getElem_cons h]; rfl
end Num
end Go.Proofs.YtlahficmkfgooaaGreat
