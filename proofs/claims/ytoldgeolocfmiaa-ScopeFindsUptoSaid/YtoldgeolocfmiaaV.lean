import Derived.OrdersIn
import Derived.RangeFuncIn
import Derived.RangeFuncRecord
import Derived.Laws.Sem
import Derived.Laws.Entries
import Derived.Laws.MakeOwn
import Derived.KernelRfl
namespace Go.Proofs.Ytoldgeolocfmiaa.V
open Go

abbrev Heap := Array Obj

/-! ## Worlds and heaps -/

/-- The blocks for a range's deferred calls are kept; no block goes. -/
def Kept (h h' : Heap) : Prop := h.size ≤ h'.size ∧ ∀ r : Nat, h[r]? = some (Obj.deferred (some [])) → h'[r]? = some (Obj.deferred (some []))
theorem Kept.refl (h : Heap) : Kept h h := ⟨Nat.le_refl _, fun _ h => h⟩
theorem Kept.trans {a b c : Heap} (h : Kept a b) (k : Kept b c) : Kept a c := ⟨Nat.le_trans h.1 k.1, fun r hr => k.2 r (h.2 r hr)⟩
theorem Kept.push (h : Heap) (o : Obj) : Kept h (h.push o) := ⟨by simp, fun r hr => by
  have := (Array.getElem?_eq_some_iff.1 hr).1
  rw [Array.getElem?_push, if_neg (by omega)]; exact hr⟩

/-- The streams and the tape are as they were; Kept. -/
def Same (w w' : World) : Prop := w'.os = w.os ∧ w'.output = w.output ∧ w'.tape = w.tape ∧ Kept w.heap w'.heap
theorem Same.refl (w : World) : Same w w := ⟨rfl, rfl, rfl, Kept.refl _⟩
theorem Same.trans {a b c : World} (h : Same a b) (k : Same b c) : Same a c := ⟨k.1.trans h.1, k.2.1.trans h.2.1, k.2.2.1.trans h.2.2.1, h.2.2.2.trans k.2.2.2⟩
theorem Same.push (w : World) (o : Obj) : Same w { w with heap := w.heap.push o } := ⟨rfl, rfl, rfl, Kept.push _ _⟩

def cl (h : Heap) (a : Addr) : Option Value :=
  match h[a.block]? with
  | some (.cells c _ _) => if a.spot.isSome then none else c[a.off]?
  | _ => none
def fz (h : Heap) (a : Addr) : Bool :=
  match h[a.block]? with
  | some (.cells _ _ (lo, hi)) => lo ≤ a.off && a.off < hi
  | _ => false
def st (h : Heap) (a : Addr) (v : Value) : Heap :=
  h.modify a.block fun
    | .cells c elem frozen => .cells (if a.spot.isSome then c else c.setIfInBounds a.off v) elem frozen
    | o => o
theorem Kept.st (h : Heap) (a : Addr) (v : Value) : Kept h (st h a v) := ⟨by simp [V.st], fun r hr => by
  simp only [V.st, Array.getElem?_modify]
  split
  · rw [hr]; rfl
  · exact hr⟩
theorem cell_cl (w : World) (a : Addr) : w.cell? a = cl w.heap a := rfl
theorem frozen_fz (w : World) (a : Addr) : w.frozen? a = fz w.heap a := rfl
theorem heap_setCell (w : World) (a : Addr) (v : Value) : (w.setCell a v).heap = st w.heap a v := rfl

/-! ## What an operation comes to -/

def endK (K : Value → World → Prop) (QP : List PanicEntry → World → Prop) : Ending → World → Prop
  | .returned v, w => K v w
  | .panicked c, w => QP c w
  | .outgrown, _ => False

def Upon (P : Program) (K : Value → World → Prop) (QP : List PanicEntry → World → Prop) : Result Next → Prop
  | .ok (.value v) w' => K v w'
  | .ok .skip w' => K undef w'
  | .ok (.enter f args) w' => Calls P f args w' (endK K QP)
  | .ok (.round l f tmps assign body) w' => RoundIn Fence.wide 0 P l f tmps assign body w' (endK K QP)
  | .halt (.panic v) w' => QP [{ v, recovered := false }] w'
  | _ => False

theorem Upon.mono {P : Program} {K K' : Value → World → Prop} {QP QP' : List PanicEntry → World → Prop} {r : Result Next} (h : Upon P K QP r)
    (hK : ∀ v w, K v w → K' v w) (hQ : ∀ c w, QP c w → QP' c w) : Upon P K' QP' r := by
  have he : ∀ e w, endK K QP e w → endK K' QP' e w := fun e w h => by
    cases e with
    | returned v => exact hK _ _ h
    | panicked c => exact hQ _ _ h
    | outgrown => exact h
  cases r with
  | ok n w =>
    cases n <;> simp only [Upon] at h ⊢ <;> first
      | exact hK _ _ h
      | exact h.mono he
  | halt x w => cases x <;> simp only [Upon] at h ⊢ <;> exact hQ _ _ h

/-- The fence: every function, any depth; perhaps within a round of a range over a function. -/
def Fn (r : Option Nat) : Fence := { fn := fun _ => True, depth := none, alive := false, round := r }

theorem callsIn_Fn {r : Option Nat} {n : Nat} {P : Program} {f : FuncId} {args : Array Value} {w : World} {R : Ending → World → Prop} :
    CallsIn (Fn r) n P f args w R ↔ Calls P f args w R := callsIn_wide (n := n)
theorem roundIn_Fn {r : Option Nat} {n : Nat} {P : Program} {l : Nat} {f : FuncId} {tmps : Array Value} {assign body : Code} {w : World} {R : Ending → World → Prop}
    (h : RoundIn Fence.wide 0 P l f tmps assign body w R) : RoundIn (Fn r) n P l f tmps assign body w R :=
  ⟨trivial, fun c cs _ => h.2 c cs (room_wide _)⟩

theorem wpIn_of_upon {r : Option Nat} {n : Nat} {P : Program} {o : Oper} {a : Act} {w : World} {next : Act → World → Prop} {Q : Exit → Act → World → Prop}
    (hd : ∀ c, o.op ≠ .defer c)
    (h : Upon P (fun v w' => next (a.put o.dst v) w') (fun c w' => Q (.panic c) a w') ((execOp a.eval o).run P w)) :
    o.wpIn (Fn r) n P a w next Q := by
  refine ⟨fun _ _ => trivial, ?_⟩
  rw [Oper.semAt_eq _ _ _ hd]
  generalize (execOp a.eval o).run P w = res at h ⊢
  cases res with
  | ok x w' =>
    cases x <;> simp only [Upon] at h <;> simp only [Oper.uponIn] <;> first
      | exact h
      | exact h.elim
      | (refine ⟨fun hh => by simp [Fn] at hh, callsIn_Fn.2 (h.mono ?_)⟩
         intro e w'' he
         cases e with
         | returned v => exact he
         | panicked c => exact he
         | outgrown => exact he.elim)
      | (refine ⟨fun hh => by simp [Fn] at hh, roundIn_Fn (h.mono ?_)⟩
         intro e w'' he
         cases e with
         | returned v => exact he
         | panicked c => exact he
         | outgrown => exact he.elim)
  | halt x w' => cases x <;> simp only [Upon] at h <;> simp only [Oper.uponIn] <;> first | exact h | exact h.elim

/-- A computation on heaps: whatever the streams and the tape. -/
def RunH {α : Type} (P : Program) (s : Sem α) (h : Heap) (K : α → Heap → Prop) : Prop :=
  ∀ w : World, w.heap = h → ∃ v w', s.run P w = .ok v w' ∧ Same w w' ∧ K v w'.heap

/-- A computation that only reads. -/
def ReadH {α : Type} (P : Program) (s : Sem α) (h : Heap) (K : α → Prop) : Prop :=
  ∀ w : World, w.heap = h → ∃ v, s.run P w = .ok v w ∧ K v
theorem ReadH.mono {α : Type} {P : Program} {s : Sem α} {h : Heap} {K K' : α → Prop} (hr : ReadH P s h K) (hk : ∀ v, K v → K' v) : ReadH P s h K' :=
  fun w hw => let ⟨v, a, b⟩ := hr w hw; ⟨v, a, hk _ b⟩
theorem ReadH.run {α : Type} {P : Program} {s : Sem α} {h : Heap} {K : α → Heap → Prop} (hr : ReadH P s h fun v => K v h) : RunH P s h K :=
  fun w hw => let ⟨v, a, b⟩ := hr w hw; ⟨v, w, a, Same.refl w, hw ▸ b⟩

def OpH (P : Program) (o : Oper) (ρ : Operand → Value) (h : Heap) (K : Value → Heap → Prop) (QP : List PanicEntry → Heap → Prop) : Prop :=
  ∀ w : World, w.heap = h → Upon P (fun v w' => Same w w' ∧ K v w'.heap) (fun c w' => Same w w' ∧ QP c w'.heap) ((execOp ρ o).run P w)

/-- A Go function called on a heap. -/
def CallsH (P : Program) (f : FuncId) (args : Array Value) (h : Heap) (R : Ending → Heap → Prop) : Prop :=
  ∀ w : World, w.heap = h → Calls P f args w fun e w' => Same w w' ∧ R e w'.heap

theorem CallsH.mono {P : Program} {f : FuncId} {args : Array Value} {h : Heap} {R R' : Ending → Heap → Prop} (hc : CallsH P f args h R)
    (hr : ∀ e h', R e h' → R' e h') : CallsH P f args h R' := fun w hw => (hc w hw).mono fun _ _ ⟨s, k⟩ => ⟨s, hr _ _ k⟩

/-- What becomes of a call's ending. -/
def endH (K : Value → Heap → Prop) (QP : List PanicEntry → Heap → Prop) : Ending → Heap → Prop
  | .returned v, h => K v h
  | .panicked c, h => QP c h
  | .outgrown, _ => False

/-- A function value called. -/
def CallVal (P : Program) (f : Value) (args : Array Value) (h : Heap) (R : Ending → Heap → Prop) : Prop :=
  ∀ w : World, w.heap = h →
    Upon P (fun v w' => Same w w' ∧ R (.returned v) w'.heap) (fun c w' => Same w w' ∧ R (.panicked c) w'.heap) ((do let d ← Deferred.ofValue f args; invoke d.target d.args : Sem Next).run P w)

theorem CallVal.mono {P : Program} {f : Value} {args : Array Value} {h : Heap} {R R' : Ending → Heap → Prop} (hc : CallVal P f args h R)
    (hr : ∀ e h', R e h' → R' e h') : CallVal P f args h R' := fun w hw => (hc w hw).mono (fun _ _ ⟨s, k⟩ => ⟨s, hr _ _ k⟩) (fun _ _ ⟨s, k⟩ => ⟨s, hr _ _ k⟩)

theorem opH_of_run {P : Program} {o : Oper} {ρ : Operand → Value} {h : Heap} {K : Value → Heap → Prop} {QP : List PanicEntry → Heap → Prop} {s : Sem Value}
    (he : execOp ρ o = (do pure (.value (← s)))) (hr : RunH P s h K) : OpH P o ρ h K QP := by
  intro w hw
  obtain ⟨v, w', hrun, hs, hk⟩ := hr w hw
  rw [he]
  simp only [Sem.run_bind, hrun, Result.andThen_ok, Sem.run_pure]
  exact ⟨hs, hk⟩

theorem opH_of_runU {P : Program} {o : Oper} {ρ : Operand → Value} {h : Heap} {K : Value → Heap → Prop} {QP : List PanicEntry → Heap → Prop} {s : Sem Unit}
    (he : execOp ρ o = (do s; pure .skip)) (hr : RunH P s h (fun _ h' => K undef h')) : OpH P o ρ h K QP := by
  intro w hw
  obtain ⟨v, w', hrun, hs, hk⟩ := hr w hw
  rw [he]
  simp only [Sem.run_bind, hrun, Result.andThen_ok, Sem.run_pure]
  exact ⟨hs, hk⟩

theorem runH_pure {α : Type} {P : Program} {h : Heap} {K : α → Heap → Prop} {s : Sem α} {v : α} (hs : ∀ w : World, s.run P w = .ok v w) (hk : K v h) : RunH P s h K :=
  fun w hw => ⟨v, w, hs w, Same.refl w, hw ▸ hk⟩

theorem RunH.mono {α : Type} {P : Program} {h : Heap} {K K' : α → Heap → Prop} {s : Sem α} (hr : RunH P s h K) (hk : ∀ v h', K v h' → K' v h') : RunH P s h K' :=
  fun w hw => let ⟨v, w', a, b, c⟩ := hr w hw; ⟨v, w', a, b, hk _ _ c⟩

/-! ## Kinds of values -/

inductive TK where
  | int (k : IntKind) | bool | str | ptr | slice | map | any

inductive Sh where
  | one (k : TK) | agg (ks : List TK)

def exV : TK → (Value → Prop) → Prop
  | .int k, F => ∃ n : Int, F (.int k n)
  | .bool, F => ∃ b : Bool, F (.bool b)
  | .str, F => ∃ s : ByteArray, F (.string s)
  | .ptr, F => ∃ a : Option Addr, F (.pointer a)
  | .slice, F => ∃ (a : Option Addr) (n c : Nat), F (.slice a n c)
  | .map, F => ∃ m : Option Nat, F (.map m)
  | .any, F => ∃ v : Value, F v

def alV : TK → (Value → Prop) → Prop
  | .int k, F => ∀ n : Int, F (.int k n)
  | .bool, F => ∀ b : Bool, F (.bool b)
  | .str, F => ∀ s : ByteArray, F (.string s)
  | .ptr, F => ∀ a : Option Addr, F (.pointer a)
  | .slice, F => ∀ (a : Option Addr) (n c : Nat), F (.slice a n c)
  | .map, F => ∀ m : Option Nat, F (.map m)
  | .any, F => ∀ v : Value, F v

def isK : TK → Value → Bool
  | .int k, .int j _ => match k, j with
    | .i8, .i8 => true | .i16, .i16 => true | .i32, .i32 => true | .i64, .i64 => true
    | .u8, .u8 => true | .u16, .u16 => true | .u32, .u32 => true | .u64, .u64 => true
    | _, _ => false
  | .bool, .bool _ => true
  | .str, .string _ => true
  | .ptr, .pointer _ => true
  | .slice, .slice _ _ _ => true
  | .map, .map _ => true
  | .any, _ => true
  | _, _ => false

def exVs : List TK → (List Value → Prop) → Prop
  | [], F => F []
  | k :: ks, F => exV k fun v => exVs ks fun vs => F (v :: vs)
def alVs : List TK → (List Value → Prop) → Prop
  | [], F => F []
  | k :: ks, F => alV k fun v => alVs ks fun vs => F (v :: vs)
def exSh : Sh → (Value → Prop) → Prop
  | .one k, F => exV k F
  | .agg ks, F => exVs ks fun vs => F (.agg vs.toArray)
def alSh : Sh → (Value → Prop) → Prop
  | .one k, F => alV k F
  | .agg ks, F => alVs ks fun vs => F (.agg vs.toArray)
def exShs : List Sh → (List Value → Prop) → Prop
  | [], F => F []
  | s :: ss, F => exSh s fun v => exShs ss fun vs => F (v :: vs)
def alShs : List Sh → (List Value → Prop) → Prop
  | [], F => F []
  | s :: ss, F => alSh s fun v => alShs ss fun vs => F (v :: vs)
def isKs : List TK → List Value → Bool
  | [], [] => true
  | k :: ks, v :: vs => isK k v && isKs ks vs
  | _, _ => false
def isSh : Sh → Value → Bool
  | .one k, v => isK k v
  | .agg ks, .agg vs => isKs ks vs.toList
  | _, _ => false
def isShs : List Sh → List Value → Bool
  | [], [] => true
  | k :: ks, v :: vs => isSh k v && isShs ks vs
  | _, _ => false

theorem exV_some {k : TK} {F : Value → Prop} (h : exV k F) : ∃ v, F v := by
  cases k <;> simp only [exV] at h
  case slice => obtain ⟨a, n, c, h⟩ := h; exact ⟨_, h⟩
  all_goals (obtain ⟨v, h⟩ := h; exact ⟨_, h⟩)
theorem exVs_some : ∀ {ks : List TK} {F : List Value → Prop}, exVs ks F → ∃ vs, vs.length = ks.length ∧ F vs
  | [], _, h => ⟨[], rfl, h⟩
  | k :: ks, F, h => by
    obtain ⟨v, h⟩ := exV_some h
    obtain ⟨vs, hl, h⟩ := exVs_some h
    exact ⟨v :: vs, by simp [hl], h⟩
theorem exSh_some {s : Sh} {F : Value → Prop} (h : exSh s F) : ∃ v, F v := by
  cases s with
  | one k => exact exV_some h
  | agg ks => obtain ⟨vs, _, h⟩ := exVs_some h; exact ⟨_, h⟩
theorem exShs_some : ∀ {ks : List Sh} {F : List Value → Prop}, exShs ks F → ∃ vs, F vs
  | [], _, h => ⟨[], h⟩
  | k :: ks, F, h => by
    obtain ⟨v, h⟩ := exSh_some h
    obtain ⟨vs, h⟩ := exShs_some h
    exact ⟨v :: vs, h⟩

theorem alV_of {k : TK} {F : Value → Prop} {v : Value} (h : alV k F) (hv : isK k v = true) : F v := by
  cases k <;> cases v <;> first
    | exact h _
    | exact h _ _ _
    | (rename_i k j n
       have : k = j := by revert hv; cases k <;> cases j <;> simp [isK]
       subst this
       exact h _)
    | (exfalso; simp [isK] at hv; done)
theorem alVs_of : ∀ {ks : List TK} {F : List Value → Prop} {vs : List Value}, alVs ks F → isKs ks vs = true → F vs
  | [], _, [], h, _ => h
  | [], _, _ :: _, _, hv => by simp [isKs] at hv
  | _ :: _, _, [], _, hv => by simp [isKs] at hv
  | k :: ks, F, v :: vs, h, hv => by
    simp only [isKs, Bool.and_eq_true] at hv
    exact alVs_of (F := fun vs => F (v :: vs)) (alV_of h hv.1) hv.2
theorem alSh_of {s : Sh} {F : Value → Prop} {v : Value} (h : alSh s F) (hv : isSh s v = true) : F v := by
  cases s with
  | one k => exact alV_of h hv
  | agg ks =>
    cases v <;> first
      | (have := alVs_of h hv
         simpa using this)
      | (exfalso; simp [isSh] at hv; done)
theorem alShs_of : ∀ {ks : List Sh} {F : List Value → Prop} {vs : List Value}, alShs ks F → isShs ks vs = true → F vs
  | [], _, [], h, _ => h
  | [], _, _ :: _, _, hv => by simp [isShs] at hv
  | _ :: _, _, [], _, hv => by simp [isShs] at hv
  | k :: ks, F, v :: vs, h, hv => by
    simp only [isShs, Bool.and_eq_true] at hv
    exact alShs_of (F := fun vs => F (v :: vs)) (alSh_of h hv.1) hv.2

def tkOf (P : Program) (t : TypeId) : TK :=
  match P.underlying t with
  | some (.int k) => .int k
  | some .bool => .bool
  | some .string => .str
  | some (.pointer _) => .ptr
  | some (.slice _) => .slice
  | some (.map _ _) => .map
  | _ => .any

def kindsOf (P : Program) : Nat → TypeId → List TK
  | 0, _ => []
  | d + 1, t =>
    match P.underlying t with
    | some (.struct fs) => fs.toList.flatMap fun f => kindsOf P d f.type
    | some (.array n e) => (List.replicate n (kindsOf P d e)).flatten
    | some (.int k) => [.int k]
    | some .bool => [.bool]
    | some .string => [.str]
    | some (.pointer _) => [.ptr]
    | some (.slice _) => [.slice]
    | some (.map _ _) => [.map]
    | _ => [.any]

def shOf (P : Program) (t : TypeId) : Sh :=
  match P.underlying t with
  | some (.struct _) => .agg (kindsOf P 6 t)
  | some (.array _ _) => .agg (kindsOf P 6 t)
  | _ => .one (tkOf P t)

/-- A result of a type; several: a tuple. -/
def exR (P : Program) (t : TypeId) (F : Value → Prop) : Prop :=
  match P.underlying t with
  | some (.tuple ts) => exShs (ts.toList.map (shOf P)) fun vs => F (.tuple vs.toArray)
  | _ => exSh (shOf P t) F
theorem exR_some {P : Program} {t : TypeId} {F : Value → Prop} (h : exR P t F) : ∃ v, F v := by
  unfold exR at h
  split at h
  · obtain ⟨vs, h⟩ := exShs_some h; exact ⟨_, h⟩
  · exact exSh_some h

theorem alV_intro {k : TK} {F : Value → Prop} (h : ∀ v, F v) : alV k F := by
  cases k <;> simp only [alV] <;> intros <;> exact h _
theorem alVs_intro : ∀ {ks : List TK} {F : List Value → Prop}, (∀ vs, vs.length = ks.length → F vs) → alVs ks F
  | [], _, h => h [] rfl
  | _ :: _, _, h => alV_intro fun v => alVs_intro fun vs hl => h (v :: vs) (by simp [hl])
theorem alSh_intro {s : Sh} {F : Value → Prop} (h : ∀ v, F v) : alSh s F := by
  cases s with
  | one k => exact alV_intro h
  | agg ks => exact alVs_intro fun vs _ => h _
theorem alShs_intro : ∀ {ks : List Sh} {F : List Value → Prop}, (∀ vs, vs.length = ks.length → F vs) → alShs ks F
  | [], _, h => h [] rfl
  | _ :: _, _, h => alSh_intro fun v => alShs_intro fun vs hl => h (v :: vs) (by simp [hl])

/-! ## Small words -/

def onBool (v : Value) (F : Bool → Prop) : Prop := match v with | .bool b => F b | _ => False
def onInt (v : Value) (F : Int → Prop) : Prop := match v with | .int _ n => F n | _ => False
def onAddr (v : Value) (F : Addr → Prop) : Prop := match v with | .pointer (some a) => F a | _ => False
def onSome {α : Type} (o : Option α) (F : α → Prop) : Prop := match o with | some a => F a | none => False
def cnd (b : Bool) (X Y : Prop) : Prop := match b with | true => X | false => Y
def chk (b : Bool) (X : Prop) : Prop := match b with | true => X | false => False
def In64 (n : Int) : Prop := -9223372036854775808 ≤ n ∧ n ≤ 9223372036854775807

theorem onBool_some {v : Value} {F : Bool → Prop} (h : onBool v F) : ∃ b, v = .bool b ∧ F b := by
  cases v <;> simp only [onBool] at h; exact ⟨_, rfl, h⟩
theorem onInt_some {v : Value} {F : Int → Prop} (h : onInt v F) : ∃ k n, v = .int k n ∧ F n := by
  cases v <;> simp only [onInt] at h; exact ⟨_, _, rfl, h⟩
theorem onAddr_some {v : Value} {F : Addr → Prop} (h : onAddr v F) : ∃ a, v = .pointer (some a) ∧ F a := by
  unfold onAddr at h; split at h
  · exact ⟨_, rfl, h⟩
  · exact h.elim
theorem onSome_some {α : Type} {o : Option α} {F : α → Prop} (h : onSome o F) : ∃ a, o = some a ∧ F a := by
  cases o <;> simp only [onSome] at h; exact ⟨_, rfl, h⟩
theorem chk_of {b : Bool} {X : Prop} (h : chk b X) : b = true ∧ X := by cases b <;> simp only [chk] at h; exact ⟨rfl, h⟩
theorem cnd_of {b : Bool} {X Y : Prop} (h : cnd b X Y) : (b = true ∧ X) ∨ (b = false ∧ Y) := by
  cases b
  · exact .inr ⟨rfl, h⟩
  · exact .inl ⟨rfl, h⟩

theorem wrap_in64 {n : Int} (h : In64 n) : IntKind.i64.wrap n = n := by
  obtain ⟨h1, h2⟩ := h
  show (if true && decide (n % 18446744073709551616 ≥ 9223372036854775808) then n % 18446744073709551616 - 18446744073709551616 else n % 18446744073709551616) = n
  simp only [Bool.true_and, decide_eq_true_eq]
  split <;> omega

/-- A number of a kind: of 64 signed bits it must not wrap. -/
def ar (k : IntKind) (n : Int) (K : Value → Prop) : Prop :=
  match k with
  | .i64 => In64 n ∧ K (.int .i64 n)
  | .i8 => K (.int .i8 (IntKind.i8.wrap n)) | .i16 => K (.int .i16 (IntKind.i16.wrap n)) | .i32 => K (.int .i32 (IntKind.i32.wrap n))
  | .u8 => K (.int .u8 (IntKind.u8.wrap n)) | .u16 => K (.int .u16 (IntKind.u16.wrap n)) | .u32 => K (.int .u32 (IntKind.u32.wrap n))
  | .u64 => K (.int .u64 (IntKind.u64.wrap n))
theorem ar_of {k : IntKind} {n : Int} {K : Value → Prop} (h : ar k n K) : K (.int k (k.wrap n)) := by
  cases k <;> simp only [ar] at h <;> first
    | exact h
    | (rw [wrap_in64 h.1]; exact h.2)

def ibit (op : BinOp) (k : IntKind) (x y : Int) : Int :=
  let a := BitVec.ofInt k.bits x
  let b := BitVec.ofInt k.bits y
  k.wrap (match op with
    | .and => (a &&& b).toNat
    | .or => (a ||| b).toNat
    | .xor => (a ^^^ b).toNat
    | _ => (a &&& ~~~b).toNat)

def shlI (k : IntKind) (x y : Int) : Int := k.wrap (x * 2 ^ (min y.toNat k.bits))
def shrI (k : IntKind) (x y : Int) : Int := x.fdiv (2 ^ (min y.toNat k.bits))

def sameK (k j : IntKind) : Bool := isK (.int k) (.int j 0)
theorem sameK_eq {k j : IntKind} (h : sameK k j = true) : k = j := by
  revert h; cases k <;> cases j <;> simp [sameK, isK]

def SemT (P : Program) (t : TypeId) (s : Sem Value) (h : Heap) (K : Value → Heap → Prop) : Prop :=
  RunH P s h fun v h' => exR P t fun u => v = u ∧ K u h'
theorem SemT.run {P : Program} {t : TypeId} {s : Sem Value} {h : Heap} {K : Value → Heap → Prop} (hr : SemT P t s h K) : RunH P s h K :=
  RunH.mono hr fun v h' hk => by obtain ⟨u, rfl, hu⟩ := exR_some hk; exact hu

def ReadT (P : Program) (t : TypeId) (s : Sem Value) (h : Heap) (K : Value → Heap → Prop) : Prop :=
  ReadH P s h fun v => exR P t fun u => v = u ∧ K u h
theorem ReadT.read {P : Program} {t : TypeId} {s : Sem Value} {h : Heap} {K : Value → Heap → Prop} (hr : ReadT P t s h K) : ReadH P s h fun v => K v h :=
  ReadH.mono hr fun v hk => by obtain ⟨u, rfl, hu⟩ := exR_some hk; exact hu

/-- The operation as the model has it, where nothing shorter serves. -/
def binS (op : BinOp) (t : TypeId) (ox oy : Operand) (x y : Value) : Sem Value := do eqGuard op t ox oy x y; binOp op t x y

def isPtrT (P : Program) (t : TypeId) : Bool := match P.underlying t with | some (.pointer _) => true | _ => false
def isSliceT (P : Program) (t : TypeId) : Bool := match P.underlying t with | some (.slice _) => true | _ => false
def isMapT (P : Program) (t : TypeId) : Bool := match P.underlying t with | some (.map _ _) => true | _ => false
def isBoolT (P : Program) (t : TypeId) : Bool := match P.underlying t with | some .bool => true | _ => false
def isIfaceT (P : Program) (t : TypeId) : Bool := match P.underlying t with | some (.interface _) => true | _ => false

def ibin (op : BinOp) (k : IntKind) (a b : Int) (K : Value → Prop) : Prop :=
  match op with
  | .add => ar k (a + b) K
  | .sub => ar k (a - b) K
  | .mul => ar k (a * b) K
  | .quo => b ≠ 0 ∧ ar k (a.tdiv b) K
  | .rem => b ≠ 0 ∧ K (.int k (a.tmod b))
  | .and => K (.int k (ibit .and k a b))
  | .or => K (.int k (ibit .or k a b))
  | .xor => K (.int k (ibit .xor k a b))
  | .andNot => K (.int k (ibit .andNot k a b))
  | .eql => K (.bool (a == b))
  | .neq => K (.bool (a != b))
  | .lss => K (.bool (decide (a < b)))
  | .leq => K (.bool (decide (a ≤ b)))
  | .gtr => K (.bool (decide (a > b)))
  | .geq => K (.bool (decide (a ≥ b)))
  | _ => False

def sbin (op : BinOp) (x y : ByteArray) (K : Value → Prop) : Prop :=
  match op with
  | .add => x.size + y.size ≤ 9223372036854775807 ∧ K (.string (x ++ y))
  | .eql => K (.bool (x.toList == y.toList))
  | .neq => K (.bool (!(x.toList == y.toList)))
  | .lss => K (.bool (Op.bytesLess x.toList y.toList))
  | .leq => K (.bool (Op.bytesLess x.toList y.toList || x.toList == y.toList))
  | .gtr => K (.bool (!(Op.bytesLess x.toList y.toList || x.toList == y.toList)))
  | .geq => K (.bool (!Op.bytesLess x.toList y.toList))
  | _ => False

def vbin (P : Program) (op : BinOp) (t : TypeId) (x y : Value) (K : Value → Prop) (els : Prop) : Prop :=
  match x, y with
  | .int k a, .int j b =>
    match op with
    | .shl => 0 ≤ b ∧ K (.int k (shlI k a b))
    | .shr => 0 ≤ b ∧ K (.int k (shrI k a b))
    | _ => chk (sameK k j) (ibin op k a b K)
  | .string a, .string b => sbin op a b K
  | .bool a, .bool b =>
    match op with
    | .eql => chk (isBoolT P t) (K (.bool (a == b)))
    | .neq => chk (isBoolT P t) (K (.bool (!(a == b))))
    | _ => els
  | .pointer a, .pointer none =>
    match op with
    | .eql => chk (isPtrT P t) (K (.bool a.isNone))
    | .neq => chk (isPtrT P t) (K (.bool (!a.isNone)))
    | _ => els
  | .slice a _ _, .slice none _ _ =>
    match op with
    | .eql => chk (isSliceT P t) (K (.bool a.isNone))
    | .neq => chk (isSliceT P t) (K (.bool (!a.isNone)))
    | _ => els
  | .map a, .map none =>
    match op with
    | .eql => chk (isMapT P t) (K (.bool a.isNone))
    | .neq => chk (isMapT P t) (K (.bool (!a.isNone)))
    | _ => els
  | _, _ => els

def vun (op : UnOp) (x : Value) (K : Value → Prop) : Prop :=
  match op, x with
  | .not, .bool b => K (.bool (!b))
  | .neg, .int k n => ar k (0 - n) K
  | .xor, .int k n => K (.int k (ibit .xor k (if k.signed then -1 else k.max) n))
  | _, _ => False

def vconv (P : Program) (s d : TypeId) (x : Value) (K : Value → Prop) (els : Prop) : Prop :=
  match P.underlying d, x with
  | some (.int k), .int _ n => chk (P.underlying s).isSome (ar k n K)
  | some .string, .string b => chk (P.underlying s).isSome (K (.string b))
  | _, _ => els

def nilV (v : Value) (K : Value → Prop) : Prop :=
  match v with
  | .pointer o => onSome o fun a => K (.pointer (some a))
  | .nilIface => False
  | .nilFunc => False
  | .func fn f c => (match fn with | .method _ => False | _ => K (.func fn f c))
  | v => K v

/-! ## Memory -/

def Al (h : Heap) (o : Obj) (K : Nat → Heap → Prop) : Prop := ∀ b h', b = h.size → h' = h.push o → K b h'

def nonAgg : Value → Bool | .agg _ => false | .tuple _ => false | _ => true

def cls (h : Heap) (a : Addr) : Nat → List Value → Prop
  | _, [] => True
  | i, [v] => cl h (a.add i) = some v
  | i, v :: u :: vs => cl h (a.add i) = some v ∧ cls h a (i + 1) (u :: vs)

def stN (h : Heap) (a : Addr) : Nat → List Value → Heap
  | _, [] => h
  | i, v :: vs => stN (st h (a.add i) v) a (i + 1) vs

def St1 (h : Heap) (a : Addr) (v : Value) (K : Heap → Prop) : Prop :=
  chk (nonAgg v) ((∃ u, cl h a = some u) ∧ fz h a = false ∧ ∀ h', h' = st h a v → K h')
def StN (h : Heap) (a : Addr) (vs : List Value) (K : Heap → Prop) : Prop :=
  chk (vs.all nonAgg) ((∀ i, i < vs.length → (∃ u, cl h (a.add i) = some u) ∧ fz h (a.add i) = false) ∧ ∀ h', h' = stN h a 0 vs → K h')

def ldV (P : Program) (t : TypeId) (h : Heap) (a : Addr) (K : Value → Prop) : Prop :=
  match shOf P t with
  | .one k => exV k fun v => cl h a = some v ∧ K v
  | .agg ks => chk (P.cellsOf t == ks.length) (exVs ks fun vs => cls h a 0 vs ∧ K (.agg vs.toArray))

def stV (P : Program) (t : TypeId) (h : Heap) (a : Addr) (v : Value) (K : Heap → Prop) : Prop :=
  match v with
  | .agg cs => chk (P.cellsOf t == cs.toList.length) (StN h a cs.toList K)
  | v => chk (P.cellsOf t == 1) (St1 h a v K)

def zeroOf (P : Program) (t : TypeId) : Option Value := (P.info? t).bind (·.zero)

def allocV (P : Program) (t : TypeId) (h : Heap) (K : Value → Heap → Prop) : Prop :=
  match zeroOf P t with
  | some z => Al h (.cells z.cells t) fun b h' => K (.pointer (some ⟨b, 0, none⟩)) h'
  | none => False

def setAt : List Value → Nat → List Value → List Value
  | cells, _, [] => cells
  | cells, off, v :: vs => setAt (cells.set off v) (off + 1) vs

def fillL (place : Nat → Option (Nat × Nat)) : List Value → List (Nat × Value) → Option (List Value)
  | cells, [] => some cells
  | cells, (i, v) :: rest =>
    match place i with
    | none => none
    | some (off, size) =>
      match v.cells.toList.length == size && Nat.ble (off + size) cells.length with
      | true => fillL place (setAt cells off v.cells.toList) rest
      | false => none

def placesL (P : Program) (fs : List Field) : List (Nat × Nat) := fs.map fun f => (f.offset, P.cellsOf f.type)
def knownL (P : Program) (fs : List Field) : Bool := fs.all fun f => (P.info? f.type).isSome

def buildV (P : Program) (t : TypeId) (ps : List (Nat × Value)) (K : Value → Prop) : Prop :=
  match zeroOf P t, P.underlying t with
  | some z, some (.struct fs) =>
    match fillL (fun i => (placesL P fs.toList)[i]?) z.cells.toList ps with
    | some cs => chk (knownL P fs.toList) (K (.agg cs.toArray))
    | none => False
  | some z, some (.array _ e) =>
    match fillL (fun i => some (i * P.cellsOf e, P.cellsOf e)) z.cells.toList ps with
    | some cs => chk (P.info? e).isSome (K (.agg cs.toArray))
    | none => False
  | _, _ => False

def zlist (z : List Value) (n : Nat) : List Value := (List.range n).map fun i => z.getD (i % z.length) default

def buildSliceV (P : Program) (t : TypeId) (n : Nat) (ps : List (Nat × Value)) (h : Heap) (K : Value → Heap → Prop) : Prop :=
  match P.underlying t with
  | some (.slice e) =>
    match zeroOf P e with
    | some z =>
      match fillL (fun i => some (i * P.cellsOf e, P.cellsOf e)) (zlist z.cells.toList (n * P.cellsOf e)) ps with
      | some cs => chk (Nat.ble (n * P.cellsOf e) 16777216) (Al h (.cells cs.toArray e) fun b h' => K (.slice (some ⟨b, 0, none⟩) n n) h')
      | none => False
    | none => False
  | _ => False

def makeSliceV (P : Program) (t : TypeId) (l c : Value) (h : Heap) (K : Value → Heap → Prop) : Prop :=
  match P.underlying t with
  | some (.slice e) =>
    match zeroOf P e with
    | some z => onInt l fun l => onInt c fun c =>
      0 ≤ l ∧ l ≤ c ∧ ((max 1 (P.bytesOf e) : Nat) : Int) * c ≤ 281474976710656 ∧
        Al h (.cells (madeCells z.cells (c.toNat * P.cellsOf e)) e) fun b h' => K (.slice (some ⟨b, 0, none⟩) l.toNat c.toNat) h'
    | none => False
  | _ => False

def sla (a : Option Addr) (m l size : Nat) : Option Addr := if m = l then a else a.map (·.add (l * size))

def optInt (v : Option Value) (d : Int) (F : Int → Prop) : Prop :=
  match v with
  | none => F d
  | some v => onInt v F

def sliceV (P : Program) (t : TypeId) (x : Value) (lo hi mx : Option Value) (K : Value → Prop) : Prop :=
  match P.underlying t, x with
  | some (.slice e), .slice a n cap =>
    match mx with
    | none => optInt hi n fun hh => optInt lo 0 fun l => 0 ≤ l ∧ l ≤ hh ∧ hh ≤ (cap : Int) ∧
        chk (P.info? e).isSome (K (.slice (sla a cap l.toNat (P.cellsOf e)) (hh.toNat - l.toNat) (cap - l.toNat)))
    | some m => onInt m fun m => match hi with
      | some hv => onInt hv fun hh => optInt lo 0 fun l => 0 ≤ l ∧ l ≤ hh ∧ hh ≤ m ∧ m ≤ (cap : Int) ∧
        chk (P.info? e).isSome (K (.slice (sla a m.toNat l.toNat (P.cellsOf e)) (hh.toNat - l.toNat) (m.toNat - l.toNat)))
      | none => False
  | some .string, .string s =>
    match mx with
    | none => optInt hi s.size fun hh => optInt lo 0 fun l => 0 ≤ l ∧ l ≤ hh ∧ hh ≤ (s.size : Int) ∧ K (.string (s.extract l.toNat hh.toNat))
    | some _ => False
  | _, _ => False

def fieldOff (P : Program) (s : TypeId) (f : Nat) : Option Nat :=
  match P.underlying s with
  | some (.struct fs) =>
    match fs.toList[f]? with
    | some fd => match P.info? fd.type with
      | some i => match Nat.beq i.size 0 with | true => none | false => some fd.offset
      | none => none
    | none => none
  | _ => none

/-- A part of an aggregate's cells: several cells, or one. -/
def partV (P : Program) (t : TypeId) (cs : List Value) (off : Nat) (K : Value → Prop) : Prop :=
  match P.underlying t, P.info? t with
  | some (.struct _), some i => K (.agg ((cs.drop off).take i.size).toArray)
  | some (.array _ _), some i => K (.agg ((cs.drop off).take i.size).toArray)
  | some _, some _ => onSome cs[off]? K
  | _, _ => False

def fieldV (P : Program) (s : TypeId) (x : Value) (f : Nat) (K : Value → Prop) : Prop :=
  match P.underlying s, x with
  | some (.struct fs), .agg cs => onSome fs.toList[f]? fun fd => partV P fd.type cs.toList fd.offset K
  | _, _ => False

def sb (s : ByteArray) (i : Int) : Int := ((s[i.toNat]?).getD 0).toNat

def indexAddrV (P : Program) (t : TypeId) (x ix : Value) (K : Value → Prop) : Prop :=
  match P.underlying t, x with
  | some (.slice e), .slice base n _ => onInt ix fun i => 0 ≤ i ∧ i < (n : Int) ∧ chk (P.info? e).isSome (onSome base fun a => K (.pointer (some (a.add (i.toNat * P.cellsOf e)))))
  | some (.array n e), .pointer base => onInt ix fun i => 0 ≤ i ∧ i < (n : Int) ∧ chk (P.info? e).isSome (onSome base fun a => K (.pointer (some (a.add (i.toNat * P.cellsOf e)))))
  | _, _ => False

def indexV (P : Program) (t : TypeId) (x ix : Value) (K : Value → Prop) : Prop :=
  match P.underlying t, x with
  | some .string, .string s => onInt ix fun i => 0 ≤ i ∧ i < (s.size : Int) ∧ K (.int .u8 (sb s i))
  | some (.array n e), .agg cs => onInt ix fun i => 0 ≤ i ∧ i < (n : Int) ∧ chk (P.info? e).isSome (partV P e cs.toList (i.toNat * P.cellsOf e) K)
  | _, _ => False

def extractV (x : Value) (i : Nat) (K : Value → Prop) : Prop :=
  match x with
  | .tuple vs => onSome vs.toList[i]? K
  | _ => False

def mn (x y : Int) : Int := if y < x then y else x
def mx (x y : Int) : Int := if y > x then y else x

def builtinV (P : Program) (b : Builtin) (ts : Array TypeId) (ty : TypeId) (args : List Value) (h : Heap) (K : Value → Heap → Prop) : Prop :=
  match b with
  | .len =>
    match ts.toList, args with
    | [t], [.slice _ n _] => chk (isSliceT P t) (K (.int .i64 (n : Int)) h)
    | [t], [.string s] => (match P.underlying t with | some .string => K (.int .i64 (s.size : Int)) h | _ => False)
    | _, _ => ReadT P ty (Builtin.len_ ts ty args.toArray) h K
  | .cap =>
    match ts.toList, args with
    | [t], [.slice _ _ c] => chk (isSliceT P t) (K (.int .i64 (c : Int)) h)
    | _, _ => False
  | .min =>
    match args with
    | [.int k x, .int _ y] => K (.int k (mn x y)) h
    | _ => SemT P ty (Builtin.min_ ts ty args.toArray) h K
  | .max =>
    match args with
    | [.int k x, .int _ y] => K (.int k (mx x y)) h
    | _ => SemT P ty (Builtin.max_ ts ty args.toArray) h K
  | .append => SemT P ty (Builtin.append_ ts ty args.toArray) h K
  | .clear => RunH P (Builtin.clear_ ts ty args.toArray) h K
  | .copy => SemT P ty (Builtin.copy_ ts ty args.toArray) h K
  | .delete => RunH P (Builtin.delete_ ts ty args.toArray) h K
  | _ => False

def callV (P : Program) (f : Value) (args : List Value) (h : Heap) (E : Ending → Heap → Prop) : Prop :=
  match f with
  | .func (.func g) first cap =>
    match (P.funcs.toList[g]?).bind (·.body) with
    | some _ => CallsH P g ((first.toList ++ args) ++ cap.toList).toArray h E
    | none => CallVal P f args.toArray h E
  | f => CallVal P f args.toArray h E

def vcOp (P : Program) (o : Oper) (ρ : Operand → Value) (h : Heap) (K : Value → Heap → Prop) (QP : List PanicEntry → Heap → Prop) : Prop :=
  match o.op with
  | .move x => K (ρ x) h
  | .assign x => K (ρ x) h
  | .pick c a b => onBool (ρ c) fun t => cnd t (K (ρ a) h) (K (ρ b) h)
  | .alloc t => allocV P t h K
  | .box t x => Al h (.cells (ρ x).cells t) fun b h' => K (.pointer (some ⟨b, 0, none⟩)) h'
  | .build t ps => buildV P t (ps.toList.map fun p => (p.1, ρ p.2)) fun v => K v h
  | .buildSlice t n ps => buildSliceV P t n (ps.toList.map fun p => (p.1, ρ p.2)) h K
  | .load t x => chk (P.underlying t).isSome (onAddr (ρ x) fun a => ldV P t h a fun v => K v h)
  | .store t x y => chk (P.underlying t).isSome (onAddr (ρ x) fun a => stV P t h a (ρ y) fun h' => K undef h')
  | .nilCheck x => nilV (ρ x) fun v => K v h
  | .binOp op t x y _ => vbin P op t (ρ x) (ρ y) (fun v => K v h) (SemT P o.type (binS op t x y (ρ x) (ρ y)) h K)
  | .unOp op _ x => vun op (ρ x) fun v => K v h
  | .convert s d x => vconv P s d (ρ x) (fun v => K v h) (SemT P o.type (convert s d (ρ x)) h K)
  | .makeInterface t x => chk ((P.underlying t).isSome && !isIfaceT P t) (K (.iface t (ρ x)) h)
  | .makeFunc fn f c => K (.func fn (f.toList.map ρ).toArray (c.toList.map ρ).toArray) h
  | .makeMap _ none => Al h (.map #[] 0) fun b h' => K (.map (some b)) h'
  | .makeMap t (some x) => chk (isMapT P t) (onInt (ρ x) fun _ => Al h (.map #[] 0) fun b h' => K (.map (some b)) h')
  | .makeSlice t l c => makeSliceV P t (ρ l) (ρ c) h K
  | .slice t x lo hi m => sliceV P t (ρ x) (lo.map ρ) (hi.map ρ) (m.map ρ) fun v => K v h
  | .fieldAddr s x f => onSome (fieldOff P s f) fun off => onAddr (ρ x) fun a => K (.pointer (some (a.add off))) h
  | .field t x f => fieldV P t (ρ x) f fun v => K v h
  | .indexAddr t x ix => indexAddrV P t (ρ x) (ρ ix) fun v => K v h
  | .index t x ix => indexV P t (ρ x) (ρ ix) fun v => K v h
  | .lookup t x ix ok => ReadT P o.type (Instr.lookup t (ρ x) (ρ ix) ok) h K
  | .mapUpdate t m k x => RunH P (Instr.mapUpdate t (ρ m) (ρ k) (ρ x)) h fun _ h' => K undef h'
  | .range t x => RunH P (Instr.range t (ρ x)) h fun v h' => ∃ a : Addr, v = .pointer (some a) ∧ K (.pointer (some a)) h'
  | .next it s => RunH P (Instr.next (ρ it) s o.type) h fun v h' => (v = .tuple #[.bool false] ∧ K (.tuple #[.bool false]) h') ∨ ∃ k x : Value, v = .tuple #[.bool true, k, x] ∧ K (.tuple #[.bool true, k, x]) h'
  | .entry it => ReadH P (Instr.entry (ρ it)) h fun v => ∃ k x : Value, v = .tuple #[k, x] ∧ K (.tuple #[k, x]) h
  | .typeAssert x xt t ok => SemT P o.type (Instr.typeAssert (ρ x) xt t ok) h K
  | .extract t i => extractV (ρ t) i fun v => K v h
  | .call c =>
    match c.callee with
    | .builtin b => builtinV P b c.argTypes o.type (c.args.toList.map ρ) h K
    | .value f => callV P (ρ f) (c.args.toList.map ρ) h (endH (fun v h' => exR P o.type fun u => v = u ∧ K u h') QP)
    | .invoke _ _ => False
  | .panic x => (match ρ x with | .iface t v => QP [{ v := .iface t v, recovered := false }] h | _ => False)
  | _ => False
/-! ## Soundness of one operation -/

section
variable {P : Program}

theorem zero_run {t : TypeId} {z : Value} (hz : zeroOf P t = some z) (w : World) : (zeroValue t).run P w = .ok z w := by
  unfold zeroOf at hz
  cases hi : P.info? t with
  | none => simp [hi] at hz
  | some i =>
    simp [hi] at hz
    simp [zeroValue, typeInfo, hi, hz]

theorem zero_info {t : TypeId} {z : Value} (hz : zeroOf P t = some z) : ∃ i, P.info? t = some i := by
  unfold zeroOf at hz
  cases hi : P.info? t with
  | none => simp [hi] at hz
  | some i => exact ⟨i, rfl⟩

theorem size_run {t : TypeId} {i : TypeInfo} (hi : P.info? t = some i) (w : World) : (sizeOf t).run P w = .ok (P.cellsOf t) w := by
  simp [sizeOf, typeInfo, hi, Program.cellsOf]

theorem newRow_run (e : TypeId) (cs : Array Value) (w : World) : (newRow e cs).run P w = .ok ⟨w.heap.size, 0, none⟩ { w with heap := w.heap.push (.cells cs e) } := by
  simp [newRow, newObj, Sem.run]

theorem al_run {h : Heap} {e : TypeId} {cs : Array Value} {K : Nat → Heap → Prop} (hk : Al h (.cells cs e) K) {w : World} (hw : w.heap = h) :
    ∃ w', (newRow e cs).run P w = .ok ⟨w.heap.size, 0, none⟩ w' ∧ Same w w' ∧ K w.heap.size w'.heap :=
  ⟨_, newRow_run e cs w, Same.push _ _, hk _ _ (by rw [hw]) (by simp [hw])⟩

theorem alloc_sound {t : TypeId} {h : Heap} {K : Value → Heap → Prop} (hk : allocV P t h K) : RunH P (Instr.alloc t true (.tuple #[])) h K := by
  unfold allocV at hk
  split at hk
  · rename_i z hz
    intro w hw
    obtain ⟨w', hr, hs, hk'⟩ := al_run (P := P) hk hw
    exact ⟨_, w', by simp [Instr.alloc, zero_run hz, newVar, hr], hs, hk'⟩
  · exact hk.elim

theorem box_sound {t : TypeId} {v : Value} {h : Heap} {K : Value → Heap → Prop} (hk : Al h (.cells v.cells t) fun b h' => K (.pointer (some ⟨b, 0, none⟩)) h') :
    RunH P (Instr.box t v) h K := by
  intro w hw
  obtain ⟨w', hr, hs, hk'⟩ := al_run (P := P) hk hw
  exact ⟨_, w', by simp [Instr.box, newVar, hr], hs, hk'⟩

theorem setAt_eq (cs : Array Value) (off : Nat) (vs : List Value) :
    (vs.zipIdx.foldl (fun (cs : Array Value) (x : Value × Nat) => cs.setIfInBounds (off + x.2) x.1) cs).toList = setAt cs.toList off vs := by
  have key : ∀ (vs : List Value) (cs : Array Value) (k : Nat),
      ((vs.zipIdx k).foldl (fun (cs : Array Value) (x : Value × Nat) => cs.setIfInBounds (off + x.2) x.1) cs).toList = setAt cs.toList (off + k) vs := by
    intro vs
    induction vs with
    | nil => intro cs k; simp [setAt]
    | cons v vs ih =>
      intro cs k
      simp only [List.zipIdx_cons, List.foldl_cons, setAt]
      rw [ih]
      simp [Nat.add_assoc]
  exact key vs cs 0

theorem setAt_length : ∀ (vs : List Value) (cs : List Value) (off : Nat), (setAt cs off vs).length = cs.length
  | [], _, _ => rfl
  | v :: vs, cs, off => by simp [setAt, setAt_length vs]

theorem fill_eq (place : Nat → Option (Nat × Nat)) : ∀ (ps : List (Nat × Value)) (cs : List Value) (r : List Value), fillL place cs ps = some r →
    Instr.fill place cs.toArray ps = some r.toArray
  | [], cs, r, h => by simp [fillL] at h; simp [Instr.fill, h]
  | (i, v) :: rest, cs, r, h => by
    simp only [fillL] at h
    cases hp : place i with
    | none => simp [hp] at h
    | some q =>
      obtain ⟨off, size⟩ := q
      simp only [hp] at h
      split at h
      · rename_i hc
        simp only [Bool.and_eq_true, beq_iff_eq, Nat.ble_eq] at hc
        simp only [Instr.fill, hp]
        have h1 : v.cells.size = size := hc.1
        rw [if_neg (by simp [h1]; omega)]
        have he : (v.cells.zipIdx.foldl (fun (cs : Array Value) (x : Value × Nat) => cs.setIfInBounds (off + x.2) x.1) cs.toArray) = (setAt cs off v.cells.toList).toArray := by
          rw [← Array.foldl_toList, Array.toList_zipIdx]
          have := setAt_eq cs.toArray off v.cells.toList
          simp only [] at this
          exact Array.ext' (by simpa using this)
        rw [he]
        exact fill_eq place rest _ r h
      · cases h

theorem mapM_places (fs : List Field) (hk : knownL P fs = true) (w : World) :
    (fs.mapM (fun f => do pure (f.offset, ← sizeOf f.type) : Field → Sem (Nat × Nat))).run P w = .ok (placesL P fs) w := by
  induction fs with
  | nil => simp [placesL]
  | cons f fs ih =>
    simp only [knownL, List.all_cons, Bool.and_eq_true] at hk
    obtain ⟨i, hi⟩ := Option.isSome_iff_exists.1 hk.1
    have ih' := ih hk.2
    simp only [placesL, bind_pure_comp] at ih'
    simp [List.mapM_cons, size_run hi, placesL, ih']

theorem build_pure {t : TypeId} {ps : Array (Nat × Value)} {K : Value → Prop} (hk : buildV P t ps.toList K) : ∃ v, K v ∧ ∀ w : World, (Instr.build t ps).run P w = .ok v w := by
  unfold buildV at hk
  split at hk
  · rename_i z fs hz hu
    split at hk
    · rename_i cs hcs
      obtain ⟨hkn, hk⟩ := chk_of hk
      refine ⟨.agg cs.toArray, hk, fun w => ?_⟩
      have hf := fill_eq _ _ _ _ hcs
      have hm := mapM_places fs.toList hkn w
      simp only [bind_pure_comp] at hm
      simp only [Array.toArray_toList] at hf
      simp [Instr.build, zero_run hz, run_underlying hu, Array.mapM_eq_mapM_toList, hm, hf]
    · exact hk.elim
  · rename_i z n e hz hu
    split at hk
    · rename_i cs hcs
      obtain ⟨hkn, hk⟩ := chk_of hk
      obtain ⟨i, hi⟩ := Option.isSome_iff_exists.1 hkn
      refine ⟨.agg cs.toArray, hk, fun w => ?_⟩
      have hf := fill_eq _ _ _ _ hcs
      simp only [Array.toArray_toList] at hf
      simp [Instr.build, zero_run hz, run_underlying hu, size_run hi, hf]
    · exact hk.elim
  · exact hk.elim

theorem build_sound {t : TypeId} {ps : Array (Nat × Value)} {h : Heap} {K : Value → Heap → Prop} (hk : buildV P t ps.toList fun v => K v h) : RunH P (Instr.build t ps) h K :=
  let ⟨_, hv, hr⟩ := build_pure hk; runH_pure hr hv

theorem zlist_eq (z : Array Value) (n : Nat) : ((Array.range n).map (z[· % z.size]!)) = (zlist z.toList n).toArray := by
  apply Array.ext'
  simp [zlist, Array.toList_range]
  intro i _
  rw [getElem!_def]
  cases z[i % z.size]? <;> simp

theorem buildSlice_sound {t : TypeId} {n : Nat} {ps : Array (Nat × Value)} {h : Heap} {K : Value → Heap → Prop} (hk : buildSliceV P t n ps.toList h K) : RunH P (Instr.buildSlice t n ps) h K := by
  unfold buildSliceV at hk
  split at hk
  · rename_i e hu
    split at hk
    · rename_i z hz
      split at hk
      · rename_i cs hcs
        obtain ⟨hle, hk⟩ := chk_of hk
        have hle := Nat.le_of_ble_eq_true hle
        obtain ⟨i, hi⟩ := zero_info hz
        intro w hw
        obtain ⟨w', hr, hs, hk'⟩ := al_run (P := P) hk hw
        have hf := fill_eq _ _ _ _ hcs
        rw [← zlist_eq] at hf
        by_cases h0 : n * P.cellsOf e = 0
        · have hz0 : zlist z.cells.toList (n * P.cellsOf e) = [] := by rw [h0]; rfl
          have hf' : Instr.fill (fun i => some (i * P.cellsOf e, P.cellsOf e)) (#[] : Array Value) ps.toList = some cs.toArray := by
            have := fill_eq _ _ _ _ hcs
            rw [hz0] at this
            exact this
          refine ⟨_, w', ?_, hs, hk'⟩
          have h00 : Array.range 0 = #[] := rfl
          simp [Instr.buildSlice, run_underlying hu, size_run hi, h0, h00, hf', hr]
        · refine ⟨_, w', ?_, hs, hk'⟩
          have hle' : ¬ (n * P.cellsOf e > 2 ^ 24) := by simp; omega
          simp only [Instr.buildSlice, Sem.run_bind, run_underlying hu, Result.andThen_ok, size_run hi, if_neg hle', if_neg h0, zero_run hz, Sem.run_pure, hf, hr]
      · exact hk.elim
    · exact hk.elim
  · exact hk.elim

end
section
variable {P : Program}

theorem load_run {w : World} {a : Addr} {v : Value} (h : cl w.heap a = some v) : (load a).run P w = .ok v w := by
  have : w.cell? a = some v := h
  simp [this]

theorem loadCells_run (a : Addr) : ∀ (vs : List Value) (i : Nat) (acc : Array Value) (w : World), cls w.heap a i vs →
    (loadCellsFrom a i vs.length acc).run P w = .ok (acc ++ vs.toArray) w
  | [], i, acc, w, _ => by simp [loadCellsFrom]
  | [v], i, acc, w, h => by
    have h' : cl w.heap (a.add i) = some v := h
    simp [loadCellsFrom, load_run h']
  | v :: u :: vs, i, acc, w, h => by
    have h' : cl w.heap (a.add i) = some v := h.1
    have ih := loadCells_run a (u :: vs) (i + 1) (acc.push v) w h.2
    simp only [List.length_cons] at ih ⊢
    simp only [loadCellsFrom, Sem.run_bind, load_run h', Result.andThen_ok]
    simp only [loadCellsFrom, Sem.run_bind] at ih
    rw [ih]
    simp

theorem isAgg_run {t : TypeId} {d : TypeDesc} (h : P.underlying t = some d) (w : World) :
    (isAgg t).run P w = .ok (match d with | .struct _ => true | .array _ _ => true | _ => false) w := by
  cases d <;> simp [isAgg, run_underlying h]

theorem info_of_cells {t : TypeId} {n : Nat} (h : P.cellsOf t = n) (hn : n ≠ 0) : ∃ i, P.info? t = some i := by
  unfold Program.cellsOf at h
  cases hi : P.info? t with
  | none => simp [hi] at h; omega
  | some i => exact ⟨i, rfl⟩

theorem under_info {t : TypeId} {d : TypeDesc} (h : P.underlying t = some d) : ∃ i, P.info? t = some i := by
  cases hi : P.info? t with
  | some i => exact ⟨i, rfl⟩
  | none => simp [Program.underlying, hi] at h

theorem shOf_one {t : TypeId} {k : TK} (h : shOf P t = .one k) (hu : (P.underlying t).isSome = true) (w : World) : (isAgg t).run P w = .ok false w := by
  obtain ⟨d, hd⟩ := Option.isSome_iff_exists.1 hu
  rw [isAgg_run hd]
  cases d <;> simp [shOf, hd] at h ⊢
theorem shOf_agg {t : TypeId} {ks : List TK} (h : shOf P t = .agg ks) (w : World) : (isAgg t).run P w = .ok true w := by
  unfold shOf at h
  split at h
  · rename_i hd; rw [isAgg_run hd]
  · rename_i hd; rw [isAgg_run hd]
  · cases h

theorem ld_same {t : TypeId} {w : World} {a : Addr} {K : Value → Prop} (hu : (P.underlying t).isSome = true) (hk : ldV P t w.heap a K) : ∃ v, (loadVar t a).run P w = .ok v w ∧ K v := by
  unfold ldV at hk
  split at hk
  · rename_i k hsh
    obtain ⟨v, hc, hkv⟩ := exV_some hk
    exact ⟨v, by simp only [loadVar, Sem.run_bind, shOf_one hsh hu, Result.andThen_ok, Bool.false_eq_true, if_false, load_run hc], hkv⟩
  · rename_i ks hsh
    obtain ⟨hsz, hk1⟩ := chk_of hk
    obtain ⟨vs, hl, hc, hkv⟩ := exVs_some hk1
    obtain ⟨d, hd⟩ := Option.isSome_iff_exists.1 hu
    obtain ⟨i, hi⟩ := under_info hd
    refine ⟨.agg vs.toArray, ?_, hkv⟩
    have hsz' : P.cellsOf t = vs.length := by rw [hl]; exact beq_iff_eq.1 hsz
    have hr := loadCells_run (P := P) a vs 0 #[] w hc
    simp only [loadVar, Sem.run_bind, shOf_agg hsh, Result.andThen_ok, if_true, size_run hi, hsz', loadCells, hr, Sem.run_pure]
    simp

theorem ld_sound {t : TypeId} {h : Heap} {a : Addr} {K : Value → Prop} (hu : (P.underlying t).isSome = true) (hk : ldV P t h a K) : RunH P (loadVar t a) h fun v h' => h' = h ∧ K v := by
  intro w hw
  subst hw
  obtain ⟨v, hr, hk⟩ := ld_same hu hk
  exact ⟨v, w, hr, Same.refl w, rfl, hk⟩

theorem store1_run {w : World} {a : Addr} {v u : Value} (hn : nonAgg v = true) (hc : cl w.heap a = some u) (hf : fz w.heap a = false) :
    ∃ w', (store a v).run P w = .ok () w' ∧ Same w w' ∧ w'.heap = st w.heap a v := by
  have h1 : w.cell? a = some u := hc
  have h2 : w.frozen? a = false := hf
  refine ⟨w.setCell a v, ?_, ⟨rfl, rfl, rfl, Kept.st _ _ _⟩, rfl⟩
  cases v <;> first
    | (simp [nonAgg] at hn; done)
    | simp only [store, Sem.run, h1, h2, Bool.false_eq_true, if_false]

theorem cl_st_some (h : Heap) (a b : Addr) (v : Value) : (∃ u, cl (st h a v) b = some u) ↔ ∃ u, cl h b = some u := by
  unfold cl st
  simp only [Array.getElem?_modify]
  by_cases hb : a.block = b.block
  · rw [if_pos hb]
    cases h[b.block]? with
    | none => simp
    | some o =>
      cases o <;> simp
      intro _
      split
      · exact Iff.rfl
      · constructor
        · rintro ⟨u, hu⟩
          have := (Array.getElem?_eq_some_iff.1 hu).1
          simp at this
          exact ⟨_, Array.getElem?_eq_getElem this⟩
        · rintro ⟨u, hu⟩
          have := (Array.getElem?_eq_some_iff.1 hu).1
          exact ⟨_, Array.getElem?_eq_getElem (by simpa using this)⟩
  · rw [if_neg hb]

theorem fz_st (h : Heap) (a b : Addr) (v : Value) : fz (st h a v) b = fz h b := by
  unfold fz st
  simp only [Array.getElem?_modify]
  by_cases hb : a.block = b.block
  · rw [if_pos hb]
    cases h[b.block]? with
    | none => simp
    | some o => cases o <;> simp
  · rw [if_neg hb]

theorem storeCells_run (a : Addr) : ∀ (vs : List Value) (i : Nat) (w : World), (vs.all nonAgg = true) →
    (∀ j, j < vs.length → (∃ u, cl w.heap (a.add (i + j)) = some u) ∧ fz w.heap (a.add (i + j)) = false) →
    ∃ w', (storeCells a vs i).run P w = .ok () w' ∧ Same w w' ∧ w'.heap = stN w.heap a i vs
  | [], i, w, _, _ => ⟨w, by simp [storeCells], Same.refl w, rfl⟩
  | v :: vs, i, w, hn, hc => by
    simp only [List.all_cons, Bool.and_eq_true] at hn
    obtain ⟨⟨u, hu⟩, hf⟩ := hc 0 (by simp)
    obtain ⟨w1, hr, hs, hh⟩ := store1_run (P := P) hn.1 (by simpa using hu) (by simpa using hf)
    obtain ⟨w2, hr2, hs2, hh2⟩ := storeCells_run a vs (i + 1) w1 hn.2 (fun j hj => by
      obtain ⟨h1, h2⟩ := hc (j + 1) (by simpa using hj)
      rw [hh, cl_st_some, fz_st]
      rw [show i + 1 + j = i + (j + 1) from by omega]
      exact ⟨h1, h2⟩)
    refine ⟨w2, by simp [storeCells, hr, hr2], hs.trans hs2, ?_⟩
    rw [hh2, hh]
    rfl

theorem st_sound {t : TypeId} {h : Heap} {a : Addr} {v : Value} {K : Heap → Prop} (hu : (P.underlying t).isSome = true) (hk : stV P t h a v K) :
    RunH P (storeVar t a v) h fun _ h' => K h' := by
  obtain ⟨d, hd⟩ := Option.isSome_iff_exists.1 hu
  obtain ⟨i, hi⟩ := under_info hd
  unfold stV at hk
  split at hk
  · rename_i cs
    obtain ⟨hsz0, hk1⟩ := chk_of hk
    have hsz := beq_iff_eq.1 hsz0
    unfold StN at hk1
    obtain ⟨hn, hc, hkk⟩ := chk_of hk1
    intro w hw
    subst hw
    obtain ⟨w', hr, hs, hh⟩ := storeCells_run (P := P) a cs.toList 0 w hn (by simpa using hc)
    refine ⟨(), w', ?_, hs, hkk _ hh⟩
    have hsz2 : cs.size = P.cellsOf t := by simpa using hsz.symm
    simp [storeVar, size_run hi, Value.cells, hsz2, hr]
  · rename_i hna
    obtain ⟨hsz0, hk1⟩ := chk_of hk
    have hsz := beq_iff_eq.1 hsz0
    unfold St1 at hk1
    obtain ⟨hn, ⟨u, hc⟩, hf, hkk⟩ := chk_of hk1
    intro w hw
    subst hw
    obtain ⟨w', hr, hs, hh⟩ := store1_run (P := P) hn hc hf
    refine ⟨(), w', ?_, hs, hkk _ hh⟩
    have hcells : v.cells = #[v] := by cases v <;> first | rfl | exact absurd rfl (hna _)
    have hsc : (storeCells a [v]).run P w = .ok () w' := by
      simp only [storeCells, Sem.run_bind, Addr.add, if_true, hr, Result.andThen_ok, Sem.run_pure]
    simp [storeVar, size_run hi, hcells, hsz, hsc]

end
section
variable {P : Program}

theorem optBound_run {ov : Option Value} {d : Int} {F : Int → Prop} (h : optInt ov d F) :
    ∃ l, F l ∧ ((ov = none ∧ l = d) ∨ ∃ k, ov = some (.int k l)) := by
  cases ov with
  | none => exact ⟨d, h, .inl ⟨rfl, rfl⟩⟩
  | some v => obtain ⟨k, n, rfl, hn⟩ := onInt_some h; exact ⟨n, hn, .inr ⟨k, rfl⟩⟩

theorem sliceBound_run {k : IntKind} {i : Int} {y : Nat} {code : BoundsCode} (h0 : 0 ≤ i) (h1 : i ≤ (y : Int)) (w : World) :
    (Instr.sliceBound (.int k i) y code).run P w = .ok i.toNat w := by
  have : 0 ≤ i ∧ i ≤ (y : Int) := ⟨h0, h1⟩
  simp [Instr.sliceBound, asIntOf, this]

def isB (ov : Option Value) (d l : Int) : Prop := (ov = none ∧ l = d) ∨ ∃ k, ov = some (.int k l)

theorem bounds_run {b : Bool} {n cap : Nat} {lo hi : Option Value} {l hh : Int} (e1 : isB hi n hh) (e2 : isB lo 0 l) (h0 : 0 ≤ l) (h1 : l ≤ hh) (h2 : hh ≤ (cap : Int)) (w : World) :
    (Instr.sliceBounds b n cap lo hi none).run P w = .ok (l.toNat, hh.toNat, cap) w := by
  have hl' : l ≤ ((hh.toNat : Nat) : Int) := by omega
  have hh0 : 0 ≤ hh := by omega
  rcases e1 with ⟨rfl, rfl⟩ | ⟨k1, rfl⟩ <;> rcases e2 with ⟨rfl, rfl⟩ | ⟨k2, rfl⟩
  · simp [Instr.sliceBounds]
  · have := sliceBound_run (P := P) (k := k2) (y := n) (code := .sliceB) h0 (by simpa using hl') w
    simp [Instr.sliceBounds, this]
  · have := sliceBound_run (P := P) (k := k1) (y := cap) (code := if b then .sliceAcap else .sliceAlen) hh0 h2 w
    simp [Instr.sliceBounds, this]
  · have t1 := sliceBound_run (P := P) (k := k1) (y := cap) (code := if b then .sliceAcap else .sliceAlen) hh0 h2 w
    have t2 := sliceBound_run (P := P) (k := k2) (y := hh.toNat) (code := .sliceB) h0 hl' w
    simp [Instr.sliceBounds, t1, t2]

theorem bounds3_run {b : Bool} {n cap : Nat} {lo : Option Value} {km kh : IntKind} {l hh m : Int} (e2 : isB lo 0 l) (h0 : 0 ≤ l) (h1 : l ≤ hh) (h2 : hh ≤ m) (h3 : m ≤ (cap : Int)) (w : World) :
    (Instr.sliceBounds b n cap lo (some (.int kh hh)) (some (.int km m))).run P w = .ok (l.toNat, hh.toNat, m.toNat) w := by
  have hl' : l ≤ ((hh.toNat : Nat) : Int) := by omega
  have t0 := sliceBound_run (P := P) (k := km) (y := cap) (code := if b then .slice3Acap else .slice3Alen) (by omega) h3 w
  have t1 := sliceBound_run (P := P) (k := kh) (i := hh) (y := m.toNat) (code := .slice3B) (by omega) (by omega) w
  rcases e2 with ⟨rfl, rfl⟩ | ⟨k2, rfl⟩
  · simp [Instr.sliceBounds, t0, t1]
  · have t2 := sliceBound_run (P := P) (k := k2) (y := hh.toNat) (code := .slice3C) h0 hl' w
    simp [Instr.sliceBounds, t0, t1, t2]

theorem slice_sound {t : TypeId} {x : Value} {lo hi mx : Option Value} {K : Value → Prop} (hk : sliceV P t x lo hi mx K) :
    ∃ v, K v ∧ ∀ w : World, (Instr.sliceAt t x lo hi mx).run P w = .ok v w := by
  unfold sliceV at hk
  split at hk
  · rename_i e a n cap hu
    split at hk
    · obtain ⟨hh, hk, e1⟩ := optBound_run hk
      obtain ⟨l, hk, e2⟩ := optBound_run hk
      obtain ⟨h0, h1, h2, hk⟩ := hk
      obtain ⟨hi', hk⟩ := chk_of hk
      obtain ⟨i, hi'⟩ := Option.isSome_iff_exists.1 hi'
      refine ⟨_, hk, fun w => ?_⟩
      have hb := bounds_run (P := P) (b := true) e1 e2 h0 h1 h2 w
      simp [Instr.sliceAt, Instr.slice, run_underlying hu, hb, size_run hi', sla]
    · rename_i m
      obtain ⟨km, m, rfl, hk1⟩ := onInt_some hk
      clear hk
      split at hk1
      · obtain ⟨kh, hh, rfl, hk2⟩ := onInt_some hk1
        clear hk1
        obtain ⟨l, hk3, e2⟩ := optBound_run hk2
        obtain ⟨h0, h1, h2, h3, hk4⟩ := hk3
        obtain ⟨hi', hk5⟩ := chk_of hk4
        obtain ⟨i, hi'⟩ := Option.isSome_iff_exists.1 hi'
        refine ⟨_, hk5, fun w => ?_⟩
        have hb := bounds3_run (P := P) (b := true) (n := n) (km := km) (kh := kh) e2 h0 h1 h2 h3 w
        simp [Instr.sliceAt, Instr.slice, run_underlying hu, hb, size_run hi', sla]
      · exact hk1.elim
  · rename_i s hu
    split at hk
    · obtain ⟨hh, hk, e1⟩ := optBound_run hk
      obtain ⟨l, hk, e2⟩ := optBound_run hk
      obtain ⟨h0, h1, h2, hk⟩ := hk
      refine ⟨_, hk, fun w => ?_⟩
      have hb := bounds_run (P := P) (b := false) e1 e2 h0 h1 h2 w
      simp [Instr.sliceAt, Instr.slice, run_underlying hu, hb]
    · exact hk.elim
  · exact hk.elim

theorem fieldOff_run {s : TypeId} {f off : Nat} (h : fieldOff P s f = some off) (a : Addr) (w : World) :
    (Instr.fieldAt s (.pointer (some a)) f).run P w = .ok (.pointer (some (a.add off))) w := by
  unfold fieldOff at h
  split at h
  · rename_i fs hu
    split at h
    · rename_i fd hf
      split at h
      · rename_i i hi
        split at h
        · cases h
        · rename_i hz
          simp only [Option.some.injEq] at h
          subst h
          have hz' : ¬ P.cellsOf fd.type = 0 := by
            simp only [Program.cellsOf, hi, Option.map_some, Option.getD_some]
            intro e
            rw [e] at hz
            simp at hz
          have hf' : fs[f]? = some fd := by simpa using hf
          simp [Instr.fieldAt, run_underlying hu, hf', Instr.sureAddr, fieldPlace, size_run hi, hz']
      · cases h
    · cases h
  · cases h

theorem part_sound {t : TypeId} {cs : Array Value} {off : Nat} {K : Value → Prop} (hk : partV P t cs.toList off K) :
    ∃ v, K v ∧ ∀ w : World, (part t cs off).run P w = .ok v w := by
  unfold partV at hk
  split at hk
  · rename_i fs i hu hi
    refine ⟨_, hk, fun w => ?_⟩
    simp [part, isAgg_run hu, size_run hi]
    apply Array.ext'
    simp [Program.cellsOf, hi]
  · rename_i n e i hu hi
    refine ⟨_, hk, fun w => ?_⟩
    simp [part, isAgg_run hu, size_run hi]
    apply Array.ext'
    simp [Program.cellsOf, hi]
  · rename_i d i hns hna hu hi
    obtain ⟨v, hv, hk⟩ := onSome_some hk
    refine ⟨v, hk, fun w => ?_⟩
    have hv' : cs[off]? = some v := by simpa using hv
    have hag := isAgg_run hu w
    cases d <;> first
      | (exfalso; exact hns _ rfl)
      | (exfalso; exact hna _ _ rfl)
      | simp [part, hag, hv']
  · exact hk.elim

theorem field_sound {s : TypeId} {x : Value} {f : Nat} {K : Value → Prop} (hk : fieldV P s x f K) :
    ∃ v, K v ∧ ∀ w : World, (Instr.field s x f).run P w = .ok v w := by
  unfold fieldV at hk
  split at hk
  · rename_i fs cs hu
    obtain ⟨fd, hf, hk⟩ := onSome_some hk
    obtain ⟨v, hv, hr⟩ := part_sound hk
    have hf' : fs[f]? = some fd := by simpa using hf
    exact ⟨v, hv, fun w => by simp [Instr.field, run_underlying hu, hf', asAgg, hr]⟩
  · exact hk.elim

theorem indexAddr_sound {t : TypeId} {x ix : Value} {K : Value → Prop} (hk : indexAddrV P t x ix K) :
    ∃ v, K v ∧ ∀ w : World, (Instr.indexAt t x ix).run P w = .ok v w := by
  unfold indexAddrV at hk
  split at hk
  · rename_i e base n c hu
    obtain ⟨k, i, rfl, h0, h1, hk⟩ := onInt_some hk
    obtain ⟨hi, hk⟩ := chk_of hk
    obtain ⟨ti, hi⟩ := Option.isSome_iff_exists.1 hi
    obtain ⟨a, rfl, hk⟩ := onSome_some hk
    refine ⟨_, hk, fun w => ?_⟩
    have hb : 0 ≤ i ∧ i < (n : Int) := ⟨h0, h1⟩
    simp [Instr.indexAt, asIntOf, run_underlying hu, hb, size_run hi]
  · rename_i n e base hu
    obtain ⟨k, i, rfl, h0, h1, hk⟩ := onInt_some hk
    obtain ⟨hi, hk⟩ := chk_of hk
    obtain ⟨ti, hi⟩ := Option.isSome_iff_exists.1 hi
    obtain ⟨a, rfl, hk⟩ := onSome_some hk
    refine ⟨_, hk, fun w => ?_⟩
    have hb : 0 ≤ i ∧ i < (n : Int) := ⟨h0, h1⟩
    simp [Instr.indexAt, asIntOf, run_underlying hu, hb, size_run hi, Instr.sureAddr]
  · exact hk.elim

theorem index_sound {t : TypeId} {x ix : Value} {K : Value → Prop} (hk : indexV P t x ix K) :
    ∃ v, K v ∧ ∀ w : World, (Instr.index t x ix).run P w = .ok v w := by
  unfold indexV at hk
  split at hk
  · rename_i s hu
    obtain ⟨k, i, rfl, h0, h1, hk⟩ := onInt_some hk
    refine ⟨_, hk, fun w => ?_⟩
    have hlt : i.toNat < s.size := by omega
    have hs : s[i.toNat]? = some (s[i.toNat]'hlt) := getElem?_pos s i.toNat hlt
    simp [Instr.index, asIntOf, run_underlying hu, h0, hs, sb]
  · rename_i n e cs hu
    obtain ⟨k, i, rfl, h0, h1, hk⟩ := onInt_some hk
    obtain ⟨hi, hk⟩ := chk_of hk
    obtain ⟨ti, hi⟩ := Option.isSome_iff_exists.1 hi
    obtain ⟨v, hv, hr⟩ := part_sound hk
    refine ⟨v, hv, fun w => ?_⟩
    have hb : 0 ≤ i ∧ i < (n : Int) := ⟨h0, h1⟩
    simp [Instr.index, asIntOf, run_underlying hu, hb, size_run hi, hr]
  · exact hk.elim

theorem extract_sound {x : Value} {i : Nat} {K : Value → Prop} (hk : extractV x i K) :
    ∃ v, K v ∧ ∀ w : World, (Instr.extract x i).run P w = .ok v w := by
  unfold extractV at hk
  split at hk
  · rename_i vs
    obtain ⟨v, hv, hk⟩ := onSome_some hk
    have hv' : vs[i]? = some v := by simpa using hv
    exact ⟨v, hk, fun w => by simp [Instr.extract, hv']⟩
  · exact hk.elim

theorem makeSlice_sound {t : TypeId} {l c : Value} {h : Heap} {K : Value → Heap → Prop} (hk : makeSliceV P t l c h K) : RunH P (Instr.makeSlice t l c) h K := by
  unfold makeSliceV at hk
  split at hk
  · rename_i e hu
    split at hk
    · rename_i z hz
      obtain ⟨kl, l, rfl, hk1⟩ := onInt_some hk
      clear hk
      obtain ⟨kc, c, rfl, h0, h1, h2, hk⟩ := onInt_some hk1
      clear hk1
      intro w hw
      unfold zeroOf at hz
      cases hi : P.info? e with
      | none => simp [hi] at hz
      | some i =>
        simp [hi] at hz
        have hc0 : 0 ≤ c := by omega
        have hb : (i.bytes : Int) * c ≤ 281474976710656 := by
          have : P.bytesOf e = i.bytes := by simp [Program.bytesOf, hi]
          rw [this] at h2
          have hle : (i.bytes : Int) ≤ ((max 1 i.bytes : Nat) : Int) := by omega
          exact Int.le_trans (Int.mul_le_mul_of_nonneg_right hle hc0) h2
        have hc : c ≤ 9223372036854775807 := by
          have hle : (1 : Int) ≤ ((max 1 (P.bytesOf e) : Nat) : Int) := by omega
          have := Int.mul_le_mul_of_nonneg_right hle hc0
          omega
        have hr := run_make (P := P) w t e i z hu hi hz kl kc l c h0 h1 hb hc
        have hs : P.cellsOf e = i.size := by simp [Program.cellsOf, hi]
        rw [hs] at hk
        refine ⟨_, _, hr, Same.push _ _, ?_⟩
        exact hk _ _ (by rw [hw]) (by simp [World.alloc, hw])
    · exact hk.elim
  · exact hk.elim

theorem equal_bool {t : TypeId} (hu : P.underlying t = some .bool) (a b : Bool) (w : World) : (Op.equal t (.bool a) (.bool b)).run P w = .ok (a == b) w := by
  have h : ∀ d : Nat, (Op.equalIn (d + 1) t (.bool a) (.bool b)).run P w = .ok (a == b) w := fun d => by simp [Op.equalIn, run_underlying hu]
  exact h 9999
theorem equal_ptr {t e : TypeId} (hu : P.underlying t = some (.pointer e)) (a : Option Addr) (w : World) : (Op.equal t (.pointer a) (.pointer none)).run P w = .ok a.isNone w := by
  have h : ∀ d : Nat, (Op.equalIn (d + 1) t (.pointer a) (.pointer none)).run P w = .ok a.isNone w := fun d => by cases a <;> simp [Op.equalIn, run_underlying hu]
  exact h 9999
theorem equal_slice {t e : TypeId} (hu : P.underlying t = some (.slice e)) (a : Option Addr) (n c n' c' : Nat) (w : World) : (Op.equal t (.slice a n c) (.slice none n' c')).run P w = .ok a.isNone w := by
  have h : ∀ d : Nat, (Op.equalIn (d + 1) t (.slice a n c) (.slice none n' c')).run P w = .ok a.isNone w := fun d => by cases a <;> simp [Op.equalIn, run_underlying hu]
  exact h 9999
theorem equal_map {t k e : TypeId} (hu : P.underlying t = some (.map k e)) (a : Option Nat) (w : World) : (Op.equal t (.map a) (.map none)).run P w = .ok a.isNone w := by
  have h : ∀ d : Nat, (Op.equalIn (d + 1) t (.map a) (.map none)).run P w = .ok a.isNone w := fun d => by cases a <;> simp [Op.equalIn, run_underlying hu]
  exact h 9999
theorem isBool_of {t : TypeId} (h : isBoolT P t = true) : P.underlying t = some .bool := by
  unfold isBoolT at h; split at h
  · assumption
  · cases h
theorem isPtr_of {t : TypeId} (h : isPtrT P t = true) : ∃ e, P.underlying t = some (.pointer e) := by
  unfold isPtrT at h; split at h
  · exact ⟨_, ‹_›⟩
  · cases h
theorem isSlice_of {t : TypeId} (h : isSliceT P t = true) : ∃ e, P.underlying t = some (.slice e) := by
  unfold isSliceT at h; split at h
  · exact ⟨_, ‹_›⟩
  · cases h
theorem isMap_of {t : TypeId} (h : isMapT P t = true) : ∃ k e, P.underlying t = some (.map k e) := by
  unfold isMapT at h; split at h
  · exact ⟨_, _, ‹_›⟩
  · cases h

theorem bin_sound {op : BinOp} {t : TypeId} {ox oy : Operand} {x y : Value} {K : Value → Prop} {els : Prop} (hk : vbin P op t x y K els) :
    els ∨ ∃ v, K v ∧ ∀ w : World, (binS op t ox oy x y).run P w = .ok v w := by
  unfold vbin at hk
  split at hk
  · rename_i k a j b
    right
    have hg : ∀ w : World, (eqGuard op t ox oy (.int k a) (.int j b)).run P w = .ok () w := by
      intro w; cases op <;> simp [eqGuard]
    split at hk
    · obtain ⟨h0, hk⟩ := hk
      refine ⟨_, hk, fun w => ?_⟩
      have hb : ¬ b < 0 := by omega
      simp [binS, hg, binOp, Op.shift, hb, shlI]
    · obtain ⟨h0, hk⟩ := hk
      refine ⟨_, hk, fun w => ?_⟩
      have hb : ¬ b < 0 := by omega
      simp [binS, hg, binOp, Op.shift, hb, shrI]
    · rename_i hn1 hn2
      obtain ⟨hs0, hk1⟩ := chk_of hk
      clear hk
      have hs := sameK_eq hs0
      clear hs0
      subst hs
      have hk := hk1
      clear hk1
      cases op <;> simp only [ibin] at hk <;> first
        | exact hk.elim
        | exact absurd rfl hn1
        | exact absurd rfl hn2
        | (refine ⟨_, ar_of hk, fun w => ?_⟩; simp [binS, hg, binOp, Op.intArith]; done)
        | (refine ⟨_, ar_of hk.2, fun w => ?_⟩; simp [binS, hg, binOp, Op.intDiv, hk.1]; done)
        | (refine ⟨_, hk.2, fun w => ?_⟩; simp [binS, hg, binOp, Op.intDiv, hk.1]; done)
        | (refine ⟨_, hk, fun w => ?_⟩; simp [binS, hg, binOp, Op.intBits, ibit]; done)
        | (refine ⟨_, hk, fun w => ?_⟩; simp [binS, hg, binOp, Op.intCmp]; done)
  · rename_i a b
    right
    have hg : ∀ w : World, (eqGuard op t ox oy (.string a) (.string b)).run P w = .ok () w := by
      intro w; cases op <;> simp [eqGuard]
    cases op <;> simp only [sbin] at hk <;> first
      | exact hk.elim
      | (refine ⟨_, hk, fun w => ?_⟩; simp [binS, hg, binOp, Op.stringOp]; done)
      | (refine ⟨_, hk.2, fun w => ?_⟩
         have hle : ¬ (((a.size + b.size : Nat) : Int) > IntKind.i64.max) := by
           have h1 := hk.1
           have h2 : IntKind.i64.max = 9223372036854775807 := rfl
           omega
         simp only [binS, Sem.run_bind, hg, Result.andThen_ok, binOp, Op.stringOp, if_neg hle, Sem.run_pure])
  · rename_i a b
    split at hk
    · right
      obtain ⟨ht, hk1⟩ := chk_of hk
      have hu := isBool_of ht
      refine ⟨_, hk1, fun w => ?_⟩
      have he := equal_bool hu a b w
      show (do eqGuard .eql t ox oy (.bool a) (.bool b); (do pure (.bool (← Op.equal t (.bool a) (.bool b))) : Sem Value)).run P w = _
      simp [eqGuard, he]
    · right
      obtain ⟨ht, hk1⟩ := chk_of hk
      have hu := isBool_of ht
      refine ⟨_, hk1, fun w => ?_⟩
      have he := equal_bool hu a b w
      show (do eqGuard .neq t ox oy (.bool a) (.bool b); (do pure (.bool (!(← Op.equal t (.bool a) (.bool b)))) : Sem Value)).run P w = _
      simp [eqGuard, he]
    · exact .inl hk
  · rename_i a
    split at hk
    · right
      obtain ⟨ht, hk1⟩ := chk_of hk
      obtain ⟨e, hu⟩ := isPtr_of ht
      refine ⟨_, hk1, fun w => ?_⟩
      have he := equal_ptr hu a w
      show (do eqGuard .eql t ox oy (.pointer a) (.pointer none); (do pure (.bool (← Op.equal t (.pointer a) (.pointer none))) : Sem Value)).run P w = _
      simp [eqGuard, he]
    · right
      obtain ⟨ht, hk1⟩ := chk_of hk
      obtain ⟨e, hu⟩ := isPtr_of ht
      refine ⟨_, hk1, fun w => ?_⟩
      have he := equal_ptr hu a w
      show (do eqGuard .neq t ox oy (.pointer a) (.pointer none); (do pure (.bool (!(← Op.equal t (.pointer a) (.pointer none)))) : Sem Value)).run P w = _
      simp [eqGuard, he]
    · exact .inl hk
  · rename_i a n c n' c'
    split at hk
    · right
      obtain ⟨ht, hk1⟩ := chk_of hk
      obtain ⟨e, hu⟩ := isSlice_of ht
      refine ⟨_, hk1, fun w => ?_⟩
      have he := equal_slice hu a n c n' c' w
      show (do eqGuard .eql t ox oy (.slice a n c) (.slice none n' c'); (do pure (.bool (← Op.equal t (.slice a n c) (.slice none n' c'))) : Sem Value)).run P w = _
      simp [eqGuard, he]
    · right
      obtain ⟨ht, hk1⟩ := chk_of hk
      obtain ⟨e, hu⟩ := isSlice_of ht
      refine ⟨_, hk1, fun w => ?_⟩
      have he := equal_slice hu a n c n' c' w
      show (do eqGuard .neq t ox oy (.slice a n c) (.slice none n' c'); (do pure (.bool (!(← Op.equal t (.slice a n c) (.slice none n' c')))) : Sem Value)).run P w = _
      simp [eqGuard, he]
    · exact .inl hk
  · rename_i a
    split at hk
    · right
      obtain ⟨ht, hk1⟩ := chk_of hk
      obtain ⟨k, e, hu⟩ := isMap_of ht
      refine ⟨_, hk1, fun w => ?_⟩
      have he := equal_map hu a w
      show (do eqGuard .eql t ox oy (.map a) (.map none); (do pure (.bool (← Op.equal t (.map a) (.map none))) : Sem Value)).run P w = _
      simp [eqGuard, he]
    · right
      obtain ⟨ht, hk1⟩ := chk_of hk
      obtain ⟨k, e, hu⟩ := isMap_of ht
      refine ⟨_, hk1, fun w => ?_⟩
      have he := equal_map hu a w
      show (do eqGuard .neq t ox oy (.map a) (.map none); (do pure (.bool (!(← Op.equal t (.map a) (.map none)))) : Sem Value)).run P w = _
      simp [eqGuard, he]
    · exact .inl hk
  · exact .inl hk

theorem un_sound {op : UnOp} {x : Value} {K : Value → Prop} (hk : vun op x K) : ∃ v, K v ∧ ∀ w : World, (Op.unary op x).run P w = .ok v w := by
  unfold vun at hk
  split at hk
  · exact ⟨_, hk, fun w => by simp [Op.unary]⟩
  · exact ⟨_, ar_of hk, fun w => by simp [Op.unary, Op.intArith]⟩
  · exact ⟨_, hk, fun w => by simp [Op.unary, Op.intBits, ibit]⟩
  · exact hk.elim

theorem conv_sound {s d : TypeId} {x : Value} {K : Value → Prop} {els : Prop} (hk : vconv P s d x K els) :
    els ∨ ∃ v, K v ∧ ∀ w : World, (convert s d x).run P w = .ok v w := by
  unfold vconv at hk
  split at hk
  · rename_i k j n hd
    right
    obtain ⟨hs, hk⟩ := chk_of hk
    obtain ⟨ds, hs⟩ := Option.isSome_iff_exists.1 hs
    refine ⟨_, ar_of hk, fun w => ?_⟩
    simp [convert, run_underlying hs, run_underlying hd, Conv.intToInt]
  · rename_i b hd
    right
    obtain ⟨hs, hk⟩ := chk_of hk
    obtain ⟨ds, hs⟩ := Option.isSome_iff_exists.1 hs
    refine ⟨_, hk, fun w => ?_⟩
    simp [convert, run_underlying hs, run_underlying hd]
  · exact .inl hk

theorem iface_run {t : TypeId} {x : Value} (h : ((P.underlying t).isSome && !isIfaceT P t) = true) (w : World) : (Instr.makeInterface t x).run P w = .ok (.iface t x) w := by
  simp only [Bool.and_eq_true, Bool.not_eq_true'] at h
  obtain ⟨d, hd⟩ := Option.isSome_iff_exists.1 h.1
  have h2 := h.2
  cases d <;> first
    | (simp [isIfaceT, hd] at h2; done)
    | simp [Instr.makeInterface, run_underlying hd]

end
/-- What is asked of a program, once. -/
structure POK (P : Program) : Prop where
  mixed : P.follows .mixedOrders = true
  names : (P.funcs.toList.all fun f => !(f.name == "runtime.NumGoroutine")) = true

section
variable {P : Program}

theorem enter_run (hP : POK P) {g : FuncId} {fn : Func} {c : Code} (hf : P.funcs[g]? = some fn) (hb : fn.body = some c) (args : Array Value) (w : World) :
    (callFunc g args).run P w = .ok (.enter g args) w := by
  have hn : ¬ fn.name = "runtime.NumGoroutine" := by
    have h1 := List.all_eq_true.1 hP.names fn (by
      have := Array.mem_of_getElem? hf
      simpa using this)
    simpa using h1
  simp [callFunc, program, Sem.run, hf, hn, hb]

theorem call_sound (hP : POK P) {f : Value} {args : Array Value} {t : TypeId} {h : Heap} {K : Value → Heap → Prop} {QP : List PanicEntry → Heap → Prop}
    (hk : callV P f args.toList h (endH (fun v h' => exR P t fun u => v = u ∧ K u h') QP)) (w : World) (hw : w.heap = h) :
    Upon P (fun v w' => Same w w' ∧ K v w'.heap) (fun c w' => Same w w' ∧ QP c w'.heap) ((do let d ← Deferred.ofValue f args; invoke d.target d.args : Sem Next).run P w) := by
  have gen : CallVal P f args h (endH (fun v h' => exR P t fun u => v = u ∧ K u h') QP) →
      Upon P (fun v w' => Same w w' ∧ K v w'.heap) (fun c w' => Same w w' ∧ QP c w'.heap) ((do let d ← Deferred.ofValue f args; invoke d.target d.args : Sem Next).run P w) := by
    intro hc
    refine (hc w hw).mono (fun v w' ⟨hs, hv⟩ => ⟨hs, ?_⟩) (fun c w' ⟨hs, hv⟩ => ⟨hs, hv⟩)
    have hv' : exR P t fun u => v = u ∧ K u w'.heap := hv
    obtain ⟨u, rfl, hu⟩ := exR_some hv'
    exact hu
  unfold callV at hk
  split at hk
  · rename_i g first cap
    split at hk
    · rename_i c hc
      cases hf : P.funcs.toList[g]? with
      | none => simp [hf] at hc
      | some fn =>
        simp [hf] at hc
        have hf' : P.funcs[g]? = some fn := by simpa using hf
        have hr := enter_run hP hf' hc ((first ++ args) ++ cap) w
        have hee : (do let d ← Deferred.ofValue (.func (.func g) first cap) args; invoke d.target d.args : Sem Next).run P w = .ok (.enter g ((first ++ args) ++ cap)) w := by
          simp only [Deferred.ofValue, invoke, Sem.run_bind, Sem.run_pure, Result.andThen_ok, hr]
        rw [hee]
        simp only [Upon]
        have hcall := hk w hw
        have ha : ((first.toList ++ args.toList) ++ cap.toList).toArray = (first ++ args) ++ cap := by
          apply Array.ext'; simp
        rw [ha] at hcall
        refine hcall.mono fun e w' ⟨hs, he⟩ => ?_
        cases e with
        | returned v =>
          have he' : exR P t fun u => v = u ∧ K u w'.heap := he
          obtain ⟨u, rfl, hu⟩ := exR_some he'
          exact ⟨hs, hu⟩
        | panicked c => exact ⟨hs, he⟩
        | outgrown => exact he.elim
    · exact gen (by simpa using hk)
  · exact gen (by simpa using hk)

theorem builtin_sound {b : Builtin} {ts : Array TypeId} {ty : TypeId} {args : Array Value} {cs : Array Bool} {h : Heap} {K : Value → Heap → Prop}
    (hk : builtinV P b ts ty args.toList h K) : ∃ s : Sem Value, RunH P s h K ∧ builtin b ts ty cs args = (do pure (.value (← s))) := by
  unfold builtinV at hk
  split at hk
  · refine ⟨_, ?_, rfl⟩
    split at hk
    · rename_i t a n c ht ha
      obtain ⟨hs, hk⟩ := chk_of hk
      obtain ⟨e, hu⟩ := isSlice_of hs
      have ht' : ts = #[t] := by apply Array.ext'; simpa using ht
      have ha' : args = #[.slice a n c] := by apply Array.ext'; simpa using ha
      subst ht' ha'
      exact runH_pure (fun w => by simp [Builtin.len_, run_underlying hu, goInt]) hk
    · rename_i t s ht ha
      split at hk
      · rename_i hu
        have ht' : ts = #[t] := by apply Array.ext'; simpa using ht
        have ha' : args = #[.string s] := by apply Array.ext'; simpa using ha
        subst ht' ha'
        exact runH_pure (fun w => by simp [Builtin.len_, run_underlying hu, goInt]) hk
      · exact hk.elim
    · simpa using hk.read.run
  · refine ⟨_, ?_, rfl⟩
    split at hk
    · rename_i t a n c ht ha
      obtain ⟨hs, hk⟩ := chk_of hk
      obtain ⟨e, hu⟩ := isSlice_of hs
      have ht' : ts = #[t] := by apply Array.ext'; simpa using ht
      have ha' : args = #[.slice a n c] := by apply Array.ext'; simpa using ha
      subst ht' ha'
      exact runH_pure (fun w => by simp [Builtin.cap_, run_underlying hu, goInt]) hk
    · exact hk.elim
  · refine ⟨_, ?_, rfl⟩
    split at hk
    · rename_i k x k' y ha
      have ha' : args = #[.int k x, .int k' y] := by apply Array.ext'; simpa using ha
      subst ha'
      exact runH_pure (fun w => by simp [Builtin.min_, Builtin.min2, mn]) hk
    · simpa using hk.run
  · refine ⟨_, ?_, rfl⟩
    split at hk
    · rename_i k x k' y ha
      have ha' : args = #[.int k x, .int k' y] := by apply Array.ext'; simpa using ha
      subst ha'
      exact runH_pure (fun w => by simp [Builtin.max_, Builtin.max2, mx]) hk
    · simpa using hk.run
  · exact ⟨_, by simpa using hk.run, rfl⟩
  · exact ⟨_, by simpa using hk, rfl⟩
  · exact ⟨_, by simpa using hk.run, rfl⟩
  · exact ⟨_, by simpa using hk, rfl⟩
  · exact hk.elim

theorem vcOp_sound (hP : POK P) {o : Oper} {ρ : Operand → Value} {h : Heap} {K : Value → Heap → Prop} {QP : List PanicEntry → Heap → Prop}
    (hk : vcOp P o ρ h K QP) : OpH P o ρ h K QP := by
  have pureCase : ∀ {s : Sem Value}, execOp ρ o = (do pure (.value (← s))) → (∃ v, K v h ∧ ∀ w : World, s.run P w = .ok v w) → OpH P o ρ h K QP :=
    fun he ⟨v, hv, hr⟩ => opH_of_run he (runH_pure hr hv)
  unfold vcOp at hk
  split at hk
  case h_1 x ho => exact pureCase (s := pure (ρ x)) (by simp [execOp, ho]) ⟨_, hk, fun w => by simp⟩
  case h_2 x ho => exact pureCase (s := pure (ρ x)) (by simp [execOp, ho]) ⟨_, hk, fun w => by simp⟩
  case h_3 c a b ho =>
    obtain ⟨t, hc, hk⟩ := onBool_some hk
    intro w hw
    simp only [execOp, ho, hc, asBool, Sem.run_bind, Sem.run_pure, Result.andThen_ok]
    rcases cnd_of hk with ⟨rfl, hk⟩ | ⟨rfl, hk⟩
    · exact ⟨Same.refl w, hw ▸ hk⟩
    · exact ⟨Same.refl w, hw ▸ hk⟩
  case h_4 t ho => exact opH_of_run (by simp only [execOp, ho]) (alloc_sound hk)
  case h_5 t x ho => exact opH_of_run (by simp only [execOp, ho]) (box_sound hk)
  case h_6 t ps ho =>
    refine opH_of_run (s := Instr.build t (ps.map fun (i, x) => (i, ρ x))) (by simp only [execOp, ho]) (build_sound ?_)
    simpa using hk
  case h_7 t n ps ho =>
    refine opH_of_run (s := Instr.buildSlice t n (ps.map fun (i, x) => (i, ρ x))) (by simp only [execOp, ho]) (buildSlice_sound ?_)
    simpa using hk
  case h_8 t x ho =>
    obtain ⟨hu, hk⟩ := chk_of hk
    obtain ⟨a, ha, hk⟩ := onAddr_some hk
    refine opH_of_run (s := Instr.loadAt t (ρ x)) (by simp only [execOp, ho]) ?_
    intro w hw
    obtain ⟨v, w', hr, hs, hh, hv⟩ := ld_sound hu hk w hw
    exact ⟨v, w', by simp [Instr.loadAt, ha, Instr.sureAddr, hr], hs, hh ▸ hv⟩
  case h_9 t x y ho =>
    obtain ⟨hu, hk⟩ := chk_of hk
    obtain ⟨a, ha, hk⟩ := onAddr_some hk
    refine opH_of_runU (s := Instr.storeAt t (ρ x) (ρ y)) (by simp only [execOp, ho]) ?_
    intro w hw
    obtain ⟨v, w', hr, hs, hv⟩ := st_sound hu hk w hw
    exact ⟨v, w', by simp [Instr.storeAt, ha, Instr.sureAddr, hr], hs, hv⟩
  case h_10 x ho =>
    intro w hw
    simp only [execOp, ho]
    unfold nilV at hk
    split at hk
    · rename_i a ha
      obtain ⟨p, rfl, hk⟩ := onSome_some hk
      rw [ha]
      exact ⟨Same.refl w, hw ▸ hk⟩
    · exact hk.elim
    · exact hk.elim
    · rename_i fn f c hf
      split at hk
      · exact hk.elim
      · rename_i hne
        rw [hf]
        cases fn <;> first
          | exact ⟨Same.refl w, hw ▸ hk⟩
          | exact absurd rfl (hne _)
    · rename_i h1 h2 h3 h4
      split <;> rename_i hx
      · exact absurd hx (h1 _)
      · exact absurd hx h2
      · exact absurd hx h3
      · exact absurd hx (h4 _ _ _)
      · exact ⟨Same.refl w, hw ▸ hk⟩
  case h_11 op t x y yt ho =>
    have he : execOp ρ o = (do pure (.value (← binS op t x y (ρ x) (ρ y)))) := by simp only [execOp, ho, binS]
    rcases bin_sound (P := P) (ox := x) (oy := y) hk with hk | hk
    · exact opH_of_run he hk.run
    · exact pureCase he hk
  case h_12 op t x ho => exact pureCase (by simp only [execOp, ho]) (un_sound hk)
  case h_13 s d x ho =>
    rcases conv_sound (P := P) hk with hk | hk
    · exact opH_of_run (by simp only [execOp, ho]) hk.run
    · exact pureCase (by simp only [execOp, ho]) hk
  case h_14 t x ho =>
    obtain ⟨ht, hk⟩ := chk_of hk
    exact pureCase (by simp only [execOp, ho]) ⟨_, hk, iface_run ht⟩
  case h_15 fn f c ho =>
    refine pureCase (s := Instr.makeFunc fn (f.map ρ) (c.map ρ)) (by simp only [execOp, ho]) ⟨_, hk, fun w => ?_⟩
    have hm : ∀ xs : Array Operand, xs.map ρ = (xs.toList.map ρ).toArray := fun xs => by apply Array.ext'; simp
    simp [Instr.makeFunc, hm]
  case h_16 t ho =>
    refine opH_of_run (s := Instr.makeMap t none) (by simp only [execOp, ho]; rfl) ?_
    intro w hw
    refine ⟨.map (some w.heap.size), { w with heap := w.heap.push (.map #[] 0) }, by simp [Instr.makeMap, newObj, Sem.run], Same.push _ _, ?_⟩
    exact hk _ _ (by rw [hw]) (by rw [← hw])
  case h_17 t x ho =>
    obtain ⟨ht, hk⟩ := chk_of hk
    obtain ⟨k, e, hu⟩ := isMap_of ht
    obtain ⟨ki, n, hx, hk⟩ := onInt_some hk
    refine opH_of_run (s := Instr.makeMap t (some (ρ x))) (by simp only [execOp, ho]; rfl) ?_
    intro w hw
    refine ⟨.map (some w.heap.size), { w with heap := w.heap.push (.map #[] 0) }, by simp [Instr.makeMap, newObj, Sem.run, hx, run_underlying hu, asInt, asIntOf], Same.push _ _, ?_⟩
    exact hk _ _ (by rw [hw]) (by rw [← hw])
  case h_18 t l c ho => exact opH_of_run (by simp only [execOp, ho]) (makeSlice_sound hk)
  case h_19 t x lo hi m ho => exact pureCase (by simp only [execOp, ho]) (slice_sound hk)
  case h_20 s x f ho =>
    obtain ⟨off, hoff, hk⟩ := onSome_some hk
    obtain ⟨a, ha, hk⟩ := onAddr_some hk
    exact pureCase (s := Instr.fieldAt s (ρ x) f) (by simp only [execOp, ho]) ⟨_, hk, fun w => by rw [ha]; exact fieldOff_run hoff a w⟩
  case h_21 t x f ho => exact pureCase (by simp only [execOp, ho]) (field_sound hk)
  case h_22 t x ix ho => exact pureCase (by simp only [execOp, ho]) (indexAddr_sound hk)
  case h_23 t x ix ho => exact pureCase (by simp only [execOp, ho]) (index_sound hk)
  case h_24 t x ix ok ho => exact opH_of_run (by simp only [execOp, ho]) hk.read.run
  case h_25 t m k x ho => exact opH_of_runU (by simp only [execOp, ho]) hk
  case h_26 t x ho => exact opH_of_run (by simp only [execOp, ho]) (RunH.mono hk fun v h' ⟨a, e, hv⟩ => e ▸ hv)
  case h_27 it s ho =>
    refine opH_of_run (by simp only [execOp, ho]) (RunH.mono hk fun v h' hv => ?_)
    rcases hv with ⟨rfl, hv⟩ | hv
    · exact hv
    · obtain ⟨k, x, rfl, hu⟩ := hv; exact hu
  case h_28 it ho => exact opH_of_run (by simp only [execOp, ho]) (ReadH.run (ReadH.mono hk fun v ⟨k, x, e, hv⟩ => e ▸ hv))
  case h_29 x xt t ok ho => exact opH_of_run (by simp only [execOp, ho]) hk.run
  case h_30 t i ho => exact pureCase (by simp only [execOp, ho]) (extract_sound hk)
  case h_31 c ho =>
    split at hk
    · rename_i b hb
      obtain ⟨s, hr, he⟩ := builtin_sound (P := P) (cs := c.args.map fun | .const _ => true | _ => false) (args := c.args.map ρ) (by simpa using hk)
      refine opH_of_run (s := s) ?_ hr
      rw [← he]
      simp only [execOp, ho, resolve, hb]
      rfl
    · rename_i f hf
      intro w hw
      have := call_sound hP (args := c.args.map ρ) (by simpa using hk) w hw
      simpa only [execOp, ho, resolve, hf] using this
    · exact hk.elim
  case h_32 x ho =>
    split at hk
    · rename_i t v hx
      intro w hw
      simp only [execOp, ho, hx, Instr.panic, goPanic, Sem.run_bind]
      exact ⟨Same.refl w, hw ▸ hk⟩
    · exact hk.elim
  case h_33 => exact hk.elim

end
/-! ## Frames and code -/

abbrev Fr := List (Nat × Value)

def gt : Fr → Nat → Value
  | [], _ => undef
  | (d, v) :: r, t => match Nat.beq d t with | true => v | false => gt r t

def ev (fr : Fr) : Operand → Value
  | .tmp t => gt fr t
  | .const v => v
  | .global g => .pointer (some ⟨g, 0, none⟩)
  | .func f => .func (.func f) #[] #[]

def putF (fr : Fr) (dst : Option Tmp) (v : Value) : Fr := match dst with | some d => (d, v) :: fr | none => fr

/-- Annotated code: what a loop, a joining carries (slot, type); what else it writes. -/
inductive AC where
  | skip
  | ops (id : Nat) (l : List Oper)
  | draw (id : Nat) (l : List Oper) (ords : List (List Nat))
  | seq (a b : AC)
  | join (live : List (Nat × TypeId)) (dead : List Nat) (a b : AC)
  | cond (c : Operand) (a b : AC)
  | block (id : Nat) (a : AC)
  | loop (live : List (Nat × TypeId)) (dead : List Nat) (a : AC)
  | exit (id : Nat)
  | ret
  | raw (c : Code) (ds : List Nat)
  | range (ts : List TypeId) (g : Operand) (ps : Array Tmp) (x y : AC)

def AC.code : AC → Code
  | .skip => .skip
  | .ops id l => .region id l.toArray false
  | .draw id l _ => .region id l.toArray true
  | .seq a b => .seq a.code b.code
  | .join _ _ a b => .seq a.code b.code
  | .cond c a b => .cond c a.code b.code
  | .block id a => .block id a.code
  | .loop _ _ a => .loop a.code
  | .exit id => .exit id
  | .ret => .ret
  | .raw c _ => c
  | .range _ g ps x y => .rangeFunc g ps x.code y.code

def opDs (l : List Oper) : List Nat := l.filterMap (·.dst)
def AC.ds : AC → List Nat
  | .skip | .exit _ | .ret => []
  | .ops _ l | .draw _ l _ => l.filterMap (·.dst) ++ l.filterMap fun o => o.guard.bind fun g => (l[g.1]?).bind (·.dst)
  | .seq a b | .join _ _ a b | .cond _ a b => a.ds ++ b.ds
  | .block _ a => a.ds
  | .loop live dead a => (live.map (·.1) ++ dead) ++ a.ds
  | .raw _ ds => ds
  | .range _ _ _ _ _ => []

/-- What the frame says of the temporaries. -/
def Agree (N : Nat) (fr : Fr) (a : Act) : Prop := a.tmps.size = N ∧ ∀ t, a.tmps.getD t undef = gt fr t

theorem Agree.eval {N : Nat} {fr : Fr} {a : Act} (h : Agree N fr a) : a.eval = ev fr := by
  funext x
  cases x with
  | tmp t => exact h.2 t
  | const v => rfl
  | global g => rfl
  | func f => rfl

theorem gt_cons (d : Nat) (v : Value) (fr : Fr) (t : Nat) : gt ((d, v) :: fr) t = if d = t then v else gt fr t := by
  simp only [gt]
  cases h : Nat.beq d t with
  | true => rw [if_pos (Nat.eq_of_beq_eq_true h)]
  | false => rw [if_neg (Nat.ne_of_beq_eq_false h)]

theorem Agree.put {N : Nat} {fr : Fr} {a : Act} (h : Agree N fr a) {dst : Option Tmp} (hd : ∀ d, dst = some d → d < N) (v : Value) : Agree N (putF fr dst v) (a.put dst v) := by
  cases dst with
  | none => exact h
  | some d =>
    have hlt := hd d rfl
    refine ⟨by simp [Act.put, h.1], fun t => ?_⟩
    simp only [Act.put, putF, gt_cons]
    rw [Array.getD_eq_getD_getElem?, Array.getElem?_setIfInBounds]
    by_cases e : d = t
    · subst e
      rw [if_pos rfl, if_pos rfl, if_pos (by rw [h.1]; exact hlt)]
      rfl
    · rw [if_neg e, if_neg e, ← h.2 t, Array.getD_eq_getD_getElem?]

/-- A slot that is known to hold b may be written so. -/
theorem Agree.know {N : Nat} {fr : Fr} {a : Act} (h : Agree N fr a) {d : Nat} {v : Value} (hv : gt fr d = v) : Agree N ((d, v) :: fr) a :=
  ⟨h.1, fun t => by
    rw [gt_cons, h.2 t]
    by_cases e : d = t
    · rw [if_pos e]; subst e; exact hv
    · rw [if_neg e]⟩

/-- Outside ds nothing has turned. -/
def Ext (ds : List Nat) (fr fr' : Fr) : Prop := ∀ t, t ∉ ds → gt fr' t = gt fr t
theorem Ext.refl (ds : List Nat) (fr : Fr) : Ext ds fr fr := fun _ _ => rfl
theorem Ext.trans {ds : List Nat} {a b c : Fr} (h : Ext ds a b) (k : Ext ds b c) : Ext ds a c := fun t ht => (k t ht).trans (h t ht)
theorem Ext.mono {ds ds' : List Nat} {a b : Fr} (h : Ext ds a b) (hs : ∀ t, t ∈ ds → t ∈ ds') : Ext ds' a b := fun t ht => h t fun hm => ht (hs t hm)
theorem Ext.put {ds : List Nat} {fr fr' : Fr} (h : Ext ds fr fr') {dst : Option Tmp} (hd : ∀ d, dst = some d → d ∈ ds) (v : Value) : Ext ds fr (putF fr' dst v) := by
  cases dst with
  | none => exact h
  | some d =>
    intro t ht
    simp only [putF, gt_cons]
    rw [if_neg (fun e => by subst e; exact ht (hd d rfl))]
    exact h t ht
theorem Ext.know {ds : List Nat} {fr fr' : Fr} (h : Ext ds fr fr') {d : Nat} {v : Value} (hv : gt fr' d = v) : Ext ds fr ((d, v) :: fr') := by
  intro t ht
  rw [gt_cons]
  split
  · rename_i e; subst e; rw [← hv]; exact h d ht
  · exact h t ht

def vals (live : List (Nat × TypeId)) (fr : Fr) : List Value := live.map fun p => gt fr p.1
def shs (P : Program) (live : List (Nat × TypeId)) : List Sh := live.map fun p => shOf P p.2
def updL : List (Nat × TypeId) → List Value → Fr → Fr
  | p :: ps, v :: vs, fr => (p.1, v) :: updL ps vs fr
  | _, _, fr => fr
def updD (dead : List Nat) (D : Nat → Value) (fr : Fr) : Fr := dead.map (fun d => (d, D d)) ++ fr
def updF (live : List (Nat × TypeId)) (vs : List Value) (dead : List Nat) (D : Nat → Value) (fr : Fr) : Fr := updL live vs (updD dead D fr)

theorem gt_updD (dead : List Nat) (D : Nat → Value) (fr : Fr) (t : Nat) : gt (updD dead D fr) t = if t ∈ dead then D t else gt fr t := by
  induction dead with
  | nil => simp [updD]
  | cons d dead ih =>
    have : gt (updD (d :: dead) D fr) t = if d = t then D d else gt (updD dead D fr) t := by simp only [updD, List.map_cons, List.cons_append, gt_cons]
    rw [this, ih]
    by_cases e : d = t
    · subst e; simp
    · have e' : ¬ t = d := fun h => e h.symm
      simp [e, e']

theorem gt_updF_vals (live : List (Nat × TypeId)) (dead : List Nat) (fr' fr : Fr) (t : Nat) :
    gt (updF live (vals live fr') dead (fun t => gt fr' t) fr) t = if t ∈ live.map (·.1) ∨ t ∈ dead then gt fr' t else gt fr t := by
  unfold updF
  induction live with
  | nil => simp [updL, gt_updD]
  | cons p ps ih =>
    simp only [vals, List.map_cons, updL, gt_cons] at ih ⊢
    rw [ih]
    by_cases e : p.1 = t
    · subst e; simp
    · have e' : ¬ t = p.1 := fun h => e h.symm
      rw [if_neg e]
      simp only [List.mem_cons, e', false_or]

theorem gt_updF_out (live : List (Nat × TypeId)) (vs : List Value) (dead : List Nat) (D : Nat → Value) (fr : Fr) {t : Nat} (h1 : t ∉ live.map (·.1)) (h2 : t ∉ dead) :
    gt (updF live vs dead D fr) t = gt fr t := by
  unfold updF
  induction live generalizing vs with
  | nil => cases vs <;> simp [updL, gt_updD, h2]
  | cons p ps ih =>
    simp only [List.map_cons, List.mem_cons, not_or] at h1
    cases vs with
    | nil => simp [updL, gt_updD, h2]
    | cons v vs =>
      simp only [updL, gt_cons]
      rw [if_neg (fun e => h1.1 e.symm)]
      exact ih vs h1.2

/-! ## What commutes -/

inductive Cl where
  | free | load | quiet | make | other

def isNilC : Operand → Bool
  | .const (.pointer none) => true | .const (.slice none _ _) => true | .const (.map none) => true | _ => false

/-- The class of an operation, by its kind and the types. -/
def sclsB (P : Program) (o : Oper) : Cl :=
  match o.op with
  | .move _ | .assign _ | .pick .. | .build .. | .fieldAddr .. | .field .. | .indexAddr .. | .index .. | .extract .. | .makeInterface .. | .makeFunc .. | .slice .. | .unOp .. | .nilCheck _ => .free
  | .binOp op t _ y _ =>
    match P.underlying t with
    | some (.int _) => .free
    | some .string => .free
    | some .bool => (match op with | .eql => .free | .neq => .free | _ => .other)
    | some (.pointer _) => (match op, isNilC y with | .eql, true => .free | .neq, true => .free | _, _ => .other)
    | some (.slice _) => (match op, isNilC y with | .eql, true => .free | .neq, true => .free | _, _ => .other)
    | some (.map _ _) => (match op, isNilC y with | .eql, true => .free | .neq, true => .free | _, _ => .other)
    | _ => .other
  | .convert s d _ =>
    match P.underlying s, P.underlying d with
    | some (.int _), some (.int _) => .free
    | some .string, some .string => .free
    | _, _ => .other
  | .load .. => .load
  | .lookup .. => .quiet
  | .alloc _ | .box .. | .buildSlice .. | .makeSlice .. | .makeMap .. => .make
  | .call c =>
    match c.callee with
    | .builtin .len => (match c.argTypes.toList with | [t] => (match P.underlying t with | some (.slice _) => .free | some .string => .free | some (.map _ _) => .quiet | _ => .other) | _ => .other)
    | .builtin .cap => .free
    | .builtin .min => .free
    | .builtin .max => .free
    | _ => .other
  | _ => .other

/-- That the values fit the class. -/
def dynB (P : Program) (o : Oper) (ρ : Operand → Value) : Bool :=
  match o.op with
  | .binOp op _ x y _ =>
    match ρ x, ρ y with
    | .int _ _, .int _ _ => true
    | .string _, .string _ => true
    | .bool _, .bool _ => (match op with | .eql => true | .neq => true | _ => false)
    | .pointer _, .pointer none => (match op with | .eql => true | .neq => true | _ => false)
    | .slice _ _ _, .slice none _ _ => (match op with | .eql => true | .neq => true | _ => false)
    | .map _, .map none => (match op with | .eql => true | .neq => true | _ => false)
    | _, _ => false
  | .convert _ d x =>
    match P.underlying d, ρ x with
    | some (.int _), .int _ _ => true
    | some .string, .string _ => true
    | _, _ => false
  | .call c =>
    match c.callee with
    | .builtin b =>
      (match b, c.args.toList.map ρ with
      | .len, [.slice _ _ _] => true
      | .len, [.string _] => true
      | .cap, [.slice _ _ _] => true
      | .min, [.int _ _, .int _ _] => true
      | .max, [.int _ _, .int _ _] => true
      | _, _ => false)
    | _ => false
  | _ => true

def dynOk (P : Program) (o : Oper) (ρ : Operand → Value) : Bool :=
  match sclsB P o with
  | .free => dynB P o ρ
  | _ => true

/-! ## The formula -/

def vcOps (P : Program) (all : List Oper) (g : Oper → (Operand → Value) → Bool) (QP : List PanicEntry → Heap → Prop) : List Oper → Fr → Heap → (Fr → Heap → Prop) → Prop
  | [], fr, h, K => K fr h
  | o :: rest, fr, h, K =>
    match o.guard with
    | none => chk (g o (ev fr)) (vcOp P o (ev fr) h (fun v h' => vcOps P all g QP rest (putF fr o.dst v) h' K) QP)
    | some (j, want) =>
      match (all[j]?).bind (·.dst) with
      | none => vcOps P all g QP rest (putF fr o.dst undef) h K
      | some d =>
        match gt fr d with
        | .bool b =>
          match want with
          | true => cnd b (chk (g o (ev ((d, .bool true) :: fr))) (vcOp P o (ev ((d, .bool true) :: fr)) h (fun v h' => vcOps P all g QP rest (putF ((d, .bool true) :: fr) o.dst v) h' K) QP))
              (vcOps P all g QP rest (putF ((d, .bool false) :: fr) o.dst undef) h K)
          | false => cnd b (vcOps P all g QP rest (putF ((d, .bool true) :: fr) o.dst undef) h K)
              (chk (g o (ev ((d, .bool false) :: fr))) (vcOp P o (ev ((d, .bool false) :: fr)) h (fun v h' => vcOps P all g QP rest (putF ((d, .bool false) :: fr) o.dst v) h' K) QP))
        | _ => vcOps P all g QP rest (putF fr o.dst undef) h K

/-- One operation of a region, its guard looked at. -/
def gOp (P : Program) (all : List Oper) (g : Oper → (Operand → Value) → Bool) (o : Oper) (fr : Fr) (h : Heap) (K : Fr → Heap → Prop) (QP : List PanicEntry → Heap → Prop) : Prop :=
  match o.guard with
  | none => chk (g o (ev fr)) (vcOp P o (ev fr) h (fun v h' => K (putF fr o.dst v) h') QP)
  | some (j, want) =>
    match (all[j]?).bind (·.dst) with
    | none => K (putF fr o.dst undef) h
    | some d =>
      match gt fr d with
      | .bool b =>
        match want with
        | true => cnd b (chk (g o (ev ((d, .bool true) :: fr))) (vcOp P o (ev ((d, .bool true) :: fr)) h (fun v h' => K (putF ((d, .bool true) :: fr) o.dst v) h') QP))
            (K (putF ((d, .bool false) :: fr) o.dst undef) h)
        | false => cnd b (K (putF ((d, .bool true) :: fr) o.dst undef) h)
            (chk (g o (ev ((d, .bool false) :: fr))) (vcOp P o (ev ((d, .bool false) :: fr)) h (fun v h' => K (putF ((d, .bool false) :: fr) o.dst v) h') QP))
      | _ => K (putF fr o.dst undef) h

def memN (x : Nat) : List Nat → Bool
  | [] => false
  | y :: ys => match Nat.beq x y with | true => true | false => memN x ys
def uni : List Nat → List Nat → List Nat
  | acc, [] => acc
  | acc, x :: xs => uni (match memN x acc with | true => acc | false => x :: acc) xs
def befOf (acc : List (List Nat)) : List Edge → List Nat → List Nat
  | [], l => l
  | e :: es, l => befOf acc es (match Region.binds .any e with | true => uni l (e.on :: (acc[e.on]?).getD []) | false => l)
/-- What each operation comes after, in every order. -/
def befL : List Oper → List (List Nat) → List (List Nat)
  | [], acc => acc
  | o :: os, acc => befL os (acc ++ [befOf acc o.after.toList []])
def inBef (bs : List (List Nat)) (y i : Nat) : Bool := memN y ((bs[i]?).getD [])

/-- What i may upset of what y has read. -/
def upsets (P : Program) (oi oy : Oper) : Bool :=
  match sclsB P oy, sclsB P oi with
  | .load, .other => true
  | .quiet, .other => true
  | .quiet, .make => true
  | _, _ => false
def needs (P : Program) (all : List Oper) (bs : List (List Nat)) (i y : Nat) : Bool :=
  match all[y]?, all[i]? with
  | some oy, some oi => upsets P oi oy && !(inBef bs y i)
  | _, _ => false

/-- What was read reads so again. -/
def stabOne (P : Program) (all : List Oper) (y : Nat) (fr : Fr) (h : Heap) : Prop :=
  match all[y]? with
  | some o => gOp P all (fun _ _ => true) o fr h (fun fr' _ => match o.dst with | some d => gt fr' d = gt fr d | none => True) (fun _ _ => False)
  | none => True
def stabV (P : Program) (all : List Oper) : List Nat → Fr → Heap → Prop → Prop
  | [], _, _, X => X
  | y :: ys, fr, h, X => stabOne P all y fr h ∧ stabV P all ys fr h X

/-- A region in one of its orders. -/
def vcOrd (P : Program) (all : List Oper) (bs : List (List Nat)) : List Nat → List Nat → Fr → Heap → (Fr → Heap → Prop) → Prop
  | [], _, fr, h, K => K fr h
  | i :: rest, done, fr, h, K =>
    match all[i]? with
    | none => False
    | some o => gOp P all (dynOk P) o fr h (fun fr' h' => stabV P all (done.filter (needs P all bs i)) fr' h' (vcOrd P all bs rest (i :: done) fr' h' K)) (fun _ _ => False)

def vcDraw (P : Program) (all : List Oper) : List (List Nat) → Fr → Heap → (Fr → Heap → Prop) → Prop
  | [], _, _, _ => True
  | [o], fr, h, K => vcOrd P all (befL all []) o [] fr h K
  | o :: os, fr, h, K => vcOrd P all (befL all []) o [] fr h K ∧ vcDraw P all os fr h K

def thenQ (K : Fr → Heap → Prop) (Q : Exit → Fr → Heap → Prop) : Exit → Fr → Heap → Prop
  | .normal, fr, h => K fr h
  | e, fr, h => Q e fr h
def blkQ (id : Nat) (Q : Exit → Fr → Heap → Prop) : Exit → Fr → Heap → Prop
  | .exit j, fr, h => match Nat.beq j id with | true => Q .normal fr h | false => Q (.exit j) fr h
  | e, fr, h => Q e fr h

/-- What a post says of an ending; of a panic without the frame. -/
def qAt (Q : Exit → Fr → Heap → Prop) : Exit → Fr → Heap → Prop
  | .panic c, _, h => ∃ fr, Q (.panic c) fr h
  | e, fr, h => Q e fr h

/-- A mark among the deferred calls: of a range over a function. -/
def markOf (r : Nat) : Deferred := { target := .collected r, args := #[] }
/-- What was pushed onto the deferred calls since the heap h0: marks alone, each with its block, no call in any. -/
def Marks (m : Bool) (h0 : Heap) (ds ds' : List Deferred) (h' : Heap) : Prop :=
  ∃ rs : List Nat, (m = false → rs = []) ∧ ds' = rs.map markOf ++ ds ∧ rs.Nodup ∧ ∀ r ∈ rs, h0.size ≤ r ∧ h'[r]? = some (Obj.deferred (some []))

theorem Marks.refl (m : Bool) (h0 : Heap) (ds : List Deferred) (h' : Heap) : Marks m h0 ds ds h' := ⟨[], fun _ => rfl, rfl, List.nodup_nil, fun _ h => by cases h⟩
theorem Marks.trans {m : Bool} {h0 h1 h2 : Heap} {d0 d1 d2 : List Deferred} (h : Marks m h0 d0 d1 h1) (k : Marks m h1 d1 d2 h2) (h01 : h0.size ≤ h1.size) (h12 : Kept h1 h2) : Marks m h0 d0 d2 h2 := by
  obtain ⟨rs, hm, rfl, hn, hr⟩ := h
  obtain ⟨rs', hm', rfl, hn', hr'⟩ := k
  refine ⟨rs' ++ rs, fun e => by rw [hm e, hm' e]; rfl, by simp, ?_, ?_⟩
  · refine List.nodup_append.2 ⟨hn', hn, ?_⟩
    rintro x hx y hy rfl
    have h1 := (hr' x hx).1
    have h2 := (Array.getElem?_eq_some_iff.1 (hr x hy).2).1
    omega
  · intro r hm
    rcases List.mem_append.1 hm with hm | hm
    · obtain ⟨a, b⟩ := hr' r hm; exact ⟨Nat.le_trans h01 a, b⟩
    · obtain ⟨a, b⟩ := hr r hm; exact ⟨a, h12.2 r b⟩

/-- Code as the model has it. -/
def WpH (P : Program) (r : Option Nat) (N : Nat) (m : Bool) (c : Code) (ds : List Nat) (Q : Exit → Fr → Heap → Prop) (fr : Fr) (h : Heap) : Prop :=
  ∀ (a : Act) (w : World), w.heap = h → Agree N fr a →
    c.wpIn (Fn r) 0 P (fun e a' w' => Marks m w.heap a.defers a'.defers w'.heap ∧ Same w w' ∧ ∃ fr', Agree N fr' a' ∧ Ext ds fr fr' ∧ qAt Q e fr' w'.heap) a w

/-- Block l alone, a loop's record, is turned. -/
def Turn (l : Nat) (h h' : Heap) : Prop := h'.size = h.size ∧ (∀ b : Nat, b ≠ l → h'[b]? = h[b]?) ∧ (∃ L, h[l]? = some (Obj.loop L)) ∧ ∃ L, h'[l]? = some (Obj.loop L)
/-- A range's two blocks are laid. -/
def Laid (h : Heap) (l : Nat) (h0 : Heap) : Prop := l = h.size + 1 ∧ ∃ L, h0 = (h.push (Obj.deferred (some []))).push (Obj.loop L)
/-- A round has left the loop by a jump. -/
def Stopped (l : Nat) (c : Code) (h : Heap) : Prop := ∃ L : Loop, h[l]? = some (Obj.loop L) ∧ L.state = .done ∧ L.pending = some c
/-- The blocks of marks are shut. -/
def Shut (n : Nat) (h h' : Heap) : Prop := h'.size = h.size ∧ ∀ b : Nat, h'[b]? = h[b]? ∨ (n ≤ b ∧ h[b]? = some (Obj.deferred (some [])))

def codeJ : Option Nat → Code | none => .ret | some id => .exit id
def exitJ : Option Nat → Exit | none => .ret | some id => .exit id
def jumpsOf : AC → List (Option Nat)
  | .seq a b | .join _ _ a b | .cond _ a b => jumpsOf a ++ jumpsOf b
  | .block id a => (jumpsOf a).filter fun | some j => !Nat.beq j id | none => true
  | .loop _ _ a => jumpsOf a
  | .exit id => [some id]
  | .ret => [none]
  | _ => []
def jumpsV (l : Nat) (h : Heap) (Q : Exit → Heap → Prop) : List (Option Nat) → Prop
  | [] => False
  | c :: cs => (Stopped l (codeJ c) h ∧ ∀ h', Turn l h h' → Q (exitJ c) h') ∨ jumpsV l h Q cs

def iterV (P : Program) (f y : Value) (h : Heap) (E : Ending → Heap → Prop) : Prop :=
  match f with
  | .func (.func g) first cap =>
    match (P.funcs.toList[g]?).bind (·.body) with
    | some _ => CallsH P g ((first.toList ++ [y]) ++ cap.toList).toArray h E
    | none => False
  | _ => False

def roundQ (l : Nat) (h0 h3 : Heap) (R : Ending → Heap → Prop) : Exit → Fr → Heap → Prop
  | .normal, _, h4 => h4[l]? = h3[l]? ∧ ∀ h5, Turn l h4 h5 → h5[l]? = h0[l]? → R (.returned (.bool true)) h5
  | .ret, _, h4 => h4[l]? = h3[l]? ∧ ∀ h5, Turn l h4 h5 → Stopped l .ret h5 → R (.returned (.bool false)) h5
  | .exit id, _, h4 => h4[l]? = h3[l]? ∧ ∀ h5, Turn l h4 h5 → Stopped l (.exit id) h5 → R (.returned (.bool false)) h5
  | _, _, _ => False

def putsF : List Tmp → List Value → Fr → Fr
  | p :: ps, v :: vs, fr => putsF ps vs ((p, v) :: fr)
  | _, _, fr => fr
def noQ : Exit → Fr → Heap → Prop := fun _ _ _ => False

def vc (P : Program) (r : Option Nat) (N : Nat) (m : Bool) : AC → (Exit → Fr → Heap → Prop) → Fr → Heap → Prop
  | .skip, Q, fr, h => Q .normal fr h
  | .ops _ l, Q, fr, h => vcOps P l (fun _ _ => true) (fun c h' => Q (.panic c) fr h') l fr h (Q .normal)
  | .draw _ l ords, Q, fr, h => vcDraw P l ords fr h (Q .normal)
  | .seq a b, Q, fr, h => vc P r N m a (thenQ (vc P r N m b Q) Q) fr h
  | .join live dead a b, Q, fr, h =>
    ∃ J : List Value → Heap → Prop,
      vc P r N m a (thenQ (fun fr' h' => chk (isShs (shs P live) (vals live fr')) (J (vals live fr') h')) Q) fr h ∧
      alShs (shs P live) fun vs => ∀ (D : Nat → Value) (h' : Heap), J vs h' → vc P r N m b Q (updF live vs dead D fr) h'
  | .cond c a b, Q, fr, h => onBool (ev fr c) fun t => cnd t (vc P r N m a Q fr h) (vc P r N m b Q fr h)
  | .block id a, Q, fr, h => vc P r N m a (blkQ id Q) fr h
  | .loop live dead a, Q, fr, h =>
    ∃ (I : List Value → Heap → Prop) (μ : List Value → Heap → Nat),
      chk (isShs (shs P live) (vals live fr)) (I (vals live fr) h) ∧
      alShs (shs P live) fun vs => ∀ (D : Nat → Value) (h' : Heap), I vs h' →
        vc P r N m a (thenQ (fun fr' h'' => chk (isShs (shs P live) (vals live fr')) (I (vals live fr') h'' ∧ μ (vals live fr') h'' < μ vs h')) Q) (updF live vs dead D fr) h'
  | .exit id, Q, fr, h => Q (.exit id) fr h
  | .ret, Q, fr, h => Q .ret fr h
  | .raw c ds, Q, fr, h => WpH P r N m c ds Q fr h
  | .range ts g ps x y, Q, fr, h =>
    ∀ (l : Nat) (h0 : Heap), Laid h l h0 →
      (alShs (ts.map (shOf P)) fun vs => ∀ (h1 : Heap) (R : Ending → Heap → Prop), h1[l]? = h0[l]? →
        vc P r N m x (thenQ (fun fr2 h2 => h2[l]? = h1[l]? ∧ ∀ h3, Turn l h2 h3 → vc P r N m y (roundQ l h0 h3 R) fr2 h3) noQ) (putsF ps.toList vs fr) h1 →
        CallVal P (.func (.yield l) #[] #[]) vs.toArray h1 R) →
      iterV P (ev fr g) (.func (.yield l) #[] #[]) h0
        (endH (fun _ h4 => (h4[l]? = h0[l]? ∧ ∀ h5, Turn l h4 h5 → Q .normal fr h5) ∨ jumpsV l h4 (fun e h5 => Q e fr h5) (jumpsOf y)) (fun c h4 => Q (.panic c) fr h4))

def noDefer (o : Oper) : Bool := match o.op with | .defer _ => false | _ => true

/-- Code of rounds: no range, nothing raw, no drawn order. -/
def tame : AC → Bool
  | .skip | .exit _ | .ret | .ops _ _ => true
  | .draw _ _ _ | .raw _ _ | .range _ _ _ _ _ => false
  | .seq a b | .join _ _ a b | .cond _ a b => tame a && tame b
  | .block _ a | .loop _ _ a => tame a

/-- What the frame's slots and the carried lists must satisfy. -/
def okC (N : Nat) (m : Bool) : AC → Bool
  | .skip | .exit _ | .ret => true
  | .ops _ l => l.all fun o => noDefer o && (match o.dst with | some d => Nat.blt d N | none => true)
  | .draw _ l _ => l.all fun o => noDefer o && (match o.dst with | some d => Nat.blt d N | none => true)
  | .seq a b => okC N m a && okC N m b
  | .join live dead a b => okC N m a && okC N m b && a.ds.all (fun d => (live.map (·.1)).contains d || dead.contains d) && (live.map (·.1)).all a.ds.contains && dead.all a.ds.contains
  | .cond _ a b => okC N m a && okC N m b
  | .block _ a => okC N m a
  | .loop live dead a => okC N m a && a.ds.all (fun d => (live.map (·.1)).contains d || dead.contains d)
  | .raw _ _ => m
  | .range ts _ ps x y => m && tame x && tame y && okC N m x && okC N m y && Nat.beq ts.length ps.size && ps.all (fun p => Nat.blt p N)
/-! ## Soundness of code -/

section
variable {P : Program} {r : Option Nat} {N : Nat} {m : Bool}

theorem wpOpsIn_mono' {ops : Array Oper} {Q Q' : Exit → Act → World → Prop} (hq : ∀ e a w, Q e a w → Q' e a w) :
    ∀ (l : List Nat) (a : Act) (w : World), wpOpsIn (Fn r) 0 P ops Q l a w → wpOpsIn (Fn r) 0 P ops Q' l a w := by
  intro l
  induction l with
  | nil => intro a w h; exact hq _ _ _ h
  | cons i rest ih =>
    intro a w h
    simp only [wpOpsIn] at h ⊢
    split
    · rename_i hn; rw [hn] at h; exact ih a w h
    · rename_i o ho
      rw [ho] at h
      simp only [] at h
      split
      · rename_i hw
        rw [if_pos hw] at h
        refine ⟨h.1, ?_⟩
        have h2 := h.2
        generalize (o.semAt (Fn r).round a.eval).run P w = res at h2 ⊢
        cases res with
        | ok x w' =>
          cases x <;> simp only [Oper.uponIn] at h2 ⊢ <;> first
            | exact h2
            | exact ih _ _ h2
            | exact ⟨h2.1, h2.2.mono fun v w'' he => ih _ _ he⟩
            | (refine ⟨h2.1, h2.2.mono ?_⟩
               intro e w'' he
               rcases e with v | c | _
               · exact ih _ _ he
               · exact hq _ _ _ he
               · obtain ⟨a0, w0, he⟩ := he; exact ⟨a0, w0, hq _ _ _ he⟩)
        | halt x w' => cases x <;> simp only [Oper.uponIn] at h2 ⊢ <;> first | exact h2 | exact hq _ _ _ h2
      · rename_i hw
        rw [if_neg hw] at h
        exact ⟨h.1, ih _ _ h.2⟩

theorem yielded_agree {fr : Fr} {a : Act} (h : Agree N fr a) (all : List Oper) (j : Nat) :
    yielded all.toArray a.tmps j = match (all[j]?).bind (·.dst) with
      | none => none
      | some d => match gt fr d with | .bool b => some b | _ => none := by
  unfold yielded
  simp only [List.getElem?_toArray]
  cases hd : (all[j]?).bind (·.dst) with
  | none => rfl
  | some d =>
    simp only [Option.bind_some]
    rw [← h.2 d, Array.getD_eq_getD_getElem?]
    cases a.tmps[d]? with
    | none => rfl
    | some v => cases v <;> rfl

def opOk (N : Nat) (o : Oper) : Bool := noDefer o && (match o.dst with | some d => Nat.blt d N | none => true)

theorem opOk_dst {o : Oper} (h : opOk N o = true) : ∀ d, o.dst = some d → d < N := by
  intro d hd
  simp only [opOk, hd, Bool.and_eq_true] at h
  simpa using h.2
theorem opOk_defer {o : Oper} (h : opOk N o = true) : ∀ c, o.op ≠ .defer c := by
  intro c hc
  simp [opOk, noDefer, hc] at h

theorem wanted_none {o : Oper} (hg : o.guard = none) (y : Nat → Option Bool) : Region.wanted o y = true := by simp [Region.wanted, hg]

theorem vcOps_cons {all : List Oper} {g : Oper → (Operand → Value) → Bool} {QP : List PanicEntry → Heap → Prop} {o : Oper} {rest : List Oper} {fr : Fr} {h : Heap} {K : Fr → Heap → Prop} :
    vcOps P all g QP (o :: rest) fr h K = gOp P all g o fr h (fun fr' h' => vcOps P all g QP rest fr' h' K) QP := rfl

/-- What gOp says, told of the machine's own step: either the operation is wanted and comes to some value, or it isn't. -/
theorem gOp_step {all : List Oper} {g : Oper → (Operand → Value) → Bool} {o : Oper} {fr : Fr} {h : Heap} {K : Fr → Heap → Prop} {QP : List PanicEntry → Heap → Prop} (hk : gOp P all g o fr h K QP)
    {a : Act} (hA : Agree N fr a) :
    ∃ fr1, Agree N fr1 a ∧ (∀ t, gt fr1 t = gt fr t) ∧
      ((Region.wanted o (yielded all.toArray a.tmps) = true ∧ g o (ev fr1) = true ∧ vcOp P o (ev fr1) h (fun v h' => K (putF fr1 o.dst v) h') QP) ∨
       (Region.wanted o (yielded all.toArray a.tmps) = false ∧ K (putF fr1 o.dst undef) h)) := by
  unfold gOp at hk
  split at hk
  · rename_i hg
    exact ⟨fr, hA, fun _ => rfl, .inl ⟨wanted_none hg _, chk_of hk⟩⟩
  · rename_i j want hg
    have hy := yielded_agree hA all j
    have hwn : Region.wanted o (yielded all.toArray a.tmps) = (yielded all.toArray a.tmps j == some want) := by simp [Region.wanted, hg]
    split at hk
    · rename_i hd
      rw [hd] at hy
      exact ⟨fr, hA, fun _ => rfl, .inr ⟨by rw [hwn, hy]; rfl, hk⟩⟩
    · rename_i d hd
      rw [hd] at hy
      simp only [] at hy
      split at hk
      · rename_i b hb
        rw [hb] at hy
        have hkn : ∀ c, b = c → Agree N ((d, .bool c) :: fr) a := fun c e => hA.know (by rw [hb, e])
        have hgt : ∀ c, b = c → ∀ t, gt ((d, .bool c) :: fr) t = gt fr t := fun c e t => by
          rw [gt_cons]; split
          · rename_i e2; subst e2; rw [hb, e]
          · rfl
        split at hk
        · rcases cnd_of hk with ⟨hb', hk'⟩ | ⟨hb', hk'⟩
          · exact ⟨_, hkn _ hb', hgt _ hb', .inl ⟨by rw [hwn, hy, hb']; rfl, chk_of hk'⟩⟩
          · exact ⟨_, hkn _ hb', hgt _ hb', .inr ⟨by rw [hwn, hy, hb']; rfl, hk'⟩⟩
        · rcases cnd_of hk with ⟨hb', hk'⟩ | ⟨hb', hk'⟩
          · exact ⟨_, hkn _ hb', hgt _ hb', .inr ⟨by rw [hwn, hy, hb']; rfl, hk'⟩⟩
          · exact ⟨_, hkn _ hb', hgt _ hb', .inl ⟨by rw [hwn, hy, hb']; rfl, chk_of hk'⟩⟩
      · rename_i hnb
        have hy' : yielded all.toArray a.tmps j = none := by
          rw [hy]
          split
          · rename_i b hb; exact absurd hb (hnb b)
          · rfl
        exact ⟨fr, hA, fun _ => rfl, .inr ⟨by rw [hwn, hy']; rfl, hk⟩⟩

theorem ext_same {ds : List Nat} {fr0 fr fr1 : Fr} (h : Ext ds fr0 fr) (he : ∀ t, gt fr1 t = gt fr t) : Ext ds fr0 fr1 := fun t ht => (he t).trans (h t ht)

theorem ops_sound (hP : POK P) {all : List Oper} {g : Oper → (Operand → Value) → Bool} {Q : Exit → Fr → Heap → Prop} (hok : all.all (opOk N) = true) :
    ∀ (l : List Oper) (k : Nat), (∀ j, l[j]? = all[k + j]?) → ∀ (fr fr0 : Fr) (a a0 : Act) (w w0 : World),
      Agree N fr a → a.defers = a0.defers → Same w0 w → Ext (opDs all) fr0 fr →
      vcOps P all g (fun c h' => Q (.panic c) fr0 h') l fr w.heap (Q .normal) →
      wpOpsIn (Fn r) 0 P all.toArray (fun e a' w' => Marks m w0.heap a0.defers a'.defers w'.heap ∧ Same w0 w' ∧ ∃ fr', Agree N fr' a' ∧ Ext (opDs all) fr0 fr' ∧ qAt Q e fr' w'.heap)
        (List.range' k l.length) a w := by
  intro l
  induction l with
  | nil =>
    intro k hl fr fr0 a a0 w w0 hA hd hs hx hk
    exact ⟨hd ▸ Marks.refl _ _ _ _, hs, fr, hA, hx, hk⟩
  | cons o rest ih =>
    intro k hl fr fr0 a a0 w w0 hA hd hs hx hk
    have ho : all[k]? = some o := by have := hl 0; simpa using this.symm
    have hoa : all.toArray[k]? = some o := by simpa using ho
    have hmem : o ∈ all := List.mem_of_getElem? ho
    have hoo : opOk N o = true := List.all_eq_true.1 hok o hmem
    have hdst : ∀ d, o.dst = some d → d ∈ opDs all := fun d h => List.mem_filterMap.2 ⟨o, hmem, h⟩
    rw [List.length_cons, List.range'_succ]
    simp only [wpOpsIn, hoa]
    rw [vcOps_cons] at hk
    obtain ⟨fr1, hA1, hgt, hcase⟩ := gOp_step hk hA
    have hx1 := ext_same hx hgt
    rcases hcase with ⟨hw, _, hv⟩ | ⟨hw, hv⟩
    · rw [if_pos hw]
      refine wpIn_of_upon (opOk_defer hoo) ?_
      have hv' := vcOp_sound hP hv w rfl
      rw [hA1.eval]
      refine hv'.mono (fun v w' ⟨hs', hk'⟩ => ?_) (fun c w' ⟨hs', hk'⟩ => ?_)
      · exact ih (k + 1) (fun j => by have := hl (j + 1); rw [List.getElem?_cons_succ] at this; rw [this]; congr 1; omega) _ fr0 _ a0 w' w0
          (hA1.put (opOk_dst hoo) v) (by cases o.dst <;> exact hd) (hs.trans hs') (hx1.put hdst v) hk'
      · exact ⟨hd ▸ Marks.refl _ _ _ _, hs.trans hs', fr1, hA1, hx1, _, hk'⟩
    · rw [if_neg (by rw [hw]; simp)]
      refine ⟨fun _ _ => trivial, ?_⟩
      exact ih (k + 1) (fun j => by have := hl (j + 1); rw [List.getElem?_cons_succ] at this; rw [this]; congr 1; omega) _ fr0 _ a0 w w0
          (hA1.put (opOk_dst hoo) undef) (by cases o.dst <;> exact hd) hs (hx1.put hdst undef) hv

/-- A frame's post, told of activations. -/
def post (N : Nat) (m : Bool) (ds : List Nat) (Q : Exit → Fr → Heap → Prop) (fr : Fr) (a : Act) (w : World) (e : Exit) (a' : Act) (w' : World) : Prop :=
  Marks m w.heap a.defers a'.defers w'.heap ∧ Same w w' ∧ ∃ fr', Agree N fr' a' ∧ Ext ds fr fr' ∧ qAt Q e fr' w'.heap

theorem qAt_normal {Q : Exit → Fr → Heap → Prop} {e : Exit} {fr : Fr} {h : Heap} (he : ∀ c, e ≠ .panic c) : qAt Q e fr h = Q e fr h := by
  cases e <;> first | rfl | exact absurd rfl (he _)

theorem qAt_thenQ {K : Fr → Heap → Prop} {Q : Exit → Fr → Heap → Prop} {e : Exit} {fr : Fr} {h : Heap} (he : e ≠ .normal) (hq : qAt (thenQ K Q) e fr h) : qAt Q e fr h := by
  cases e <;> first
    | exact absurd rfl he
    | exact hq

theorem post_trans {ds1 ds2 ds : List Nat} {Q : Exit → Fr → Heap → Prop} {fr0 fr1 : Fr} {a0 a1 a : Act} {w0 w1 w : World} {e : Exit}
    (hd : Marks m w0.heap a0.defers a1.defers w1.heap) (hs : Same w0 w1) (hx : Ext ds1 fr0 fr1) (h1 : ∀ t, t ∈ ds1 → t ∈ ds) (h2 : ∀ t, t ∈ ds2 → t ∈ ds)
    (h : post N m ds2 Q fr1 a1 w1 e a w) : post N m ds Q fr0 a0 w0 e a w := by
  obtain ⟨hd', hs', fr', hA, hx', hq⟩ := h
  exact ⟨hd.trans hd' hs.2.2.2.1 hs'.2.2.2, hs.trans hs', fr', hA, (hx.mono h1).trans (hx'.mono h2), hq⟩

theorem post_ds {ds ds' : List Nat} {Q : Exit → Fr → Heap → Prop} {fr0 : Fr} {a0 a : Act} {w0 w : World} {e : Exit} (hd : ∀ t, t ∈ ds → t ∈ ds') (h : post N m ds Q fr0 a0 w0 e a w) : post N m ds' Q fr0 a0 w0 e a w :=
  let ⟨a1, a2, fr', a3, a4, a5⟩ := h; ⟨a1, a2, fr', a3, a4.mono hd, a5⟩

theorem seq_sound {x y : Code} {dsx dsy : List Nat} {Kn : Fr → Heap → Prop} {Q : Exit → Fr → Heap → Prop} {fr : Fr} {a : Act} {w : World}
    (hx : x.wpIn (Fn r) 0 P (post N m dsx (thenQ Kn Q) fr a w) a w)
    (hy : ∀ fr1 a1 w1, Agree N fr1 a1 → Marks m w.heap a.defers a1.defers w1.heap → Same w w1 → Ext dsx fr fr1 → Kn fr1 w1.heap → y.wpIn (Fn r) 0 P (post N m (dsx ++ dsy) Q fr a w) a1 w1) :
    (Code.seq x y).wpIn (Fn r) 0 P (post N m (dsx ++ dsy) Q fr a w) a w := by
  refine wpIn_seq (wpIn_mono hx ?_)
  intro e a1 w1 hp
  obtain ⟨hd, hs, fr1, hA, hxt, hq⟩ := hp
  have hel : ∀ t, t ∈ dsx → t ∈ dsx ++ dsy := fun t ht => List.mem_append.2 (.inl ht)
  cases e with
  | normal => exact hy fr1 a1 w1 hA hd hs hxt hq
  | exit id => exact ⟨hd, hs, fr1, hA, hxt.mono hel, qAt_thenQ (by simp) hq⟩
  | goto l => exact ⟨hd, hs, fr1, hA, hxt.mono hel, qAt_thenQ (by simp) hq⟩
  | ret => exact ⟨hd, hs, fr1, hA, hxt.mono hel, qAt_thenQ (by simp) hq⟩
  | panic c => exact ⟨hd, hs, fr1, hA, hxt.mono hel, qAt_thenQ (by simp) hq⟩
  | outgrown => exact ⟨hd, hs, fr1, hA, hxt.mono hel, qAt_thenQ (by simp) hq⟩

/-- The regions that draw their order are proved elsewhere: this is what the proof of the rest asks of them. -/
def DrawOk (P : Program) (r : Option Nat) (N : Nat) (m : Bool) (x : List Oper × List (List Nat)) : Prop :=
  ∀ (id : Nat) (Q : Exit → Fr → Heap → Prop) (fr : Fr) (a : Act) (w : World), Agree N fr a →
    vcDraw P x.1 x.2 fr w.heap (Q .normal) → (Code.region id x.1.toArray true).wpIn (Fn r) 0 P (post N m (opDs x.1) Q fr a w) a w

def drawsOf : AC → List (List Oper × List (List Nat))
  | .draw _ l ords => [(l, ords)]
  | .seq a b | .join _ _ a b | .cond _ a b => drawsOf a ++ drawsOf b
  | .block _ a | .loop _ _ a => drawsOf a
  | _ => []

theorem opDs_sub (id : Nat) (l : List Oper) : ∀ t, t ∈ opDs l → t ∈ (AC.ops id l).ds := fun t ht => by
  simp only [AC.ds, List.mem_append]; exact .inl ht

/-! ### A range over a function -/

theorem draws_tame : ∀ (c : AC), tame c = true → drawsOf c = [] := by
  intro c
  induction c with
  | seq a b iha ihb => intro h; simp only [tame, Bool.and_eq_true] at h; simp [drawsOf, iha h.1, ihb h.2]
  | join _ _ a b iha ihb => intro h; simp only [tame, Bool.and_eq_true] at h; simp [drawsOf, iha h.1, ihb h.2]
  | cond _ a b iha ihb => intro h; simp only [tame, Bool.and_eq_true] at h; simp [drawsOf, iha h.1, ihb h.2]
  | block _ a ih => intro h; exact ih h
  | loop _ _ a ih => intro h; exact ih h
  | draw => intro h; cases h
  | _ => intro _; rfl
theorem okC_tame {m' : Bool} : ∀ (c : AC), tame c = true → okC N m c = true → okC N m' c = true := by
  intro c
  induction c with
  | seq a b iha ihb => intro h k; simp only [tame, okC, Bool.and_eq_true] at *; exact ⟨iha h.1 k.1, ihb h.2 k.2⟩
  | join _ _ a b iha ihb => intro h k; simp only [tame, okC, Bool.and_eq_true] at *; exact ⟨⟨⟨⟨iha h.1 k.1.1.1.1, ihb h.2 k.1.1.1.2⟩, k.1.1.2⟩, k.1.2⟩, k.2⟩
  | cond _ a b iha ihb => intro h k; simp only [tame, okC, Bool.and_eq_true] at *; exact ⟨iha h.1 k.1, ihb h.2 k.2⟩
  | block _ a ih => intro h k; exact ih h k
  | loop _ _ a ih => intro h k; simp only [tame, okC, Bool.and_eq_true] at *; exact ⟨ih h k.1, k.2⟩
  | draw => intro h; cases h
  | raw => intro h; cases h
  | range => intro h; cases h
  | _ => intro _ k; exact k
theorem vc_tame {r' : Option Nat} {m' : Bool} : ∀ (c : AC), tame c = true → ∀ Q fr h, vc P r N m c Q fr h = vc P r' N m' c Q fr h := by
  intro c
  induction c with
  | seq a b iha ihb =>
    intro h Q fr h'
    simp only [tame, Bool.and_eq_true] at h
    simp only [vc]
    rw [iha h.1, show vc P r N m b Q = vc P r' N m' b Q from funext fun fr => funext fun h' => ihb h.2 Q fr h']
  | join _ _ a b iha ihb =>
    intro h Q fr h'
    simp only [tame, Bool.and_eq_true] at h
    simp only [vc]
    have e : ∀ Q, vc P r N m b Q = vc P r' N m' b Q := fun Q => funext fun fr => funext fun h' => ihb h.2 Q fr h'
    have e2 : ∀ Q, vc P r N m a Q = vc P r' N m' a Q := fun Q => funext fun fr => funext fun h' => iha h.1 Q fr h'
    simp only [e, e2]
  | cond _ a b iha ihb =>
    intro h Q fr h'
    simp only [tame, Bool.and_eq_true] at h
    simp only [vc]
    rw [iha h.1, ihb h.2]
  | block _ a ih => intro h Q fr h'; simp only [vc]; exact ih h _ _ _
  | loop _ _ a ih =>
    intro h Q fr h'
    simp only [vc]
    have e2 : ∀ Q, vc P r N m a Q = vc P r' N m' a Q := fun Q => funext fun fr => funext fun h' => ih h Q fr h'
    simp only [e2]
  | draw => intro h; cases h
  | raw => intro h; cases h
  | range => intro h; cases h
  | _ => intro _ Q fr h'; rfl

theorem same_turn {w : World} {l : Nat} {L L' : Loop} (hl : w.heap[l]? = some (.loop L)) : Same w (w.putObj l (.loop L')) ∧ Turn l w.heap (w.putObj l (.loop L')).heap ∧ (w.putObj l (.loop L')).heap[l]? = some (.loop L') := by
  have hlt := (Array.getElem?_eq_some_iff.1 hl).1
  have hn := World.putObj_heap_same (w := w) (o := .loop L') hlt
  have ho : ∀ b : Nat, b ≠ l → (w.putObj l (.loop L')).heap[b]? = w.heap[b]? := fun b hb => World.putObj_heap_other hb
  refine ⟨⟨rfl, rfl, rfl, by rw [World.putObj_size]; exact Nat.le_refl _, fun b hb => ?_⟩, ⟨by rw [World.putObj_size], ho, ⟨L, hl⟩, L', hn⟩, hn⟩
  by_cases e : b = l
  · subst e; rw [hl] at hb; cases hb
  · rw [ho b e]; exact hb

theorem jumps_some {l : Nat} {h : Heap} {Q : Exit → Heap → Prop} : ∀ {js : List (Option Nat)}, jumpsV l h Q js → ∃ c, Stopped l (codeJ c) h ∧ ∀ h', Turn l h h' → Q (exitJ c) h'
  | [], h => h.elim
  | c :: _, .inl h => ⟨c, h⟩
  | _ :: cs, .inr h => jumps_some h

theorem puts_agree : ∀ (ps : List Tmp) (vs : List Value) (fr : Fr) (tmps : Array Value), Agree N fr { tmps := tmps, defers := [] } → (∀ p ∈ ps, p < N) →
    Agree N (putsF ps vs fr) { tmps := (ps.zip vs).foldl (fun tmps (t, a) => tmps.setIfInBounds t a) tmps, defers := [] }
  | [], vs, fr, tmps, h, _ => by cases vs <;> exact h
  | p :: ps, [], fr, tmps, h, _ => h
  | p :: ps, v :: vs, fr, tmps, h, hp => by
    simp only [putsF, List.zip_cons_cons, List.foldl_cons]
    exact puts_agree ps vs _ _ (h.put (dst := some p) (fun d hd => by cases hd; exact hp p List.mem_cons_self) v) (fun q hq => hp q (List.mem_cons_of_mem _ hq))

theorem qAt_noQ {K : Fr → Heap → Prop} {e : Exit} {fr : Fr} {h : Heap} (he : e ≠ .normal) (hq : qAt (thenQ K noQ) e fr h) : False := by
  cases e <;> first
    | exact absurd rfl he
    | exact hq
    | exact hq.elim fun _ h => h

def SndH (P : Program) (r : Option Nat) (N : Nat) (m : Bool) (c : AC) : Prop :=
  okC N m c = true → (∀ l ∈ drawsOf c, DrawOk P r N m l) → ∀ (Q : Exit → Fr → Heap → Prop) (fr : Fr) (a : Act) (w : World),
    Agree N fr a → vc P r N m c Q fr w.heap → c.code.wpIn (Fn r) 0 P (post N m c.ds Q fr a w) a w

theorem range_sound (hP : POK P) {ts : List TypeId} {g : Operand} {ps : Array Tmp} {x y : AC} (ihx : ∀ l, SndH P (some l) N false x) (ihy : ∀ l, SndH P (some l) N false y)
    {Q : Exit → Fr → Heap → Prop} {fr : Fr} {a : Act} {w : World} (hr : r = none)
    (hok : okC N m (.range ts g ps x y) = true) (hA : Agree N fr a) (hk : vc P r N m (.range ts g ps x y) Q fr w.heap) :
    (AC.range ts g ps x y).code.wpIn (Fn r) 0 P (post N m (AC.range ts g ps x y).ds Q fr a w) a w := by
  subst hr
  simp only [okC, Bool.and_eq_true] at hok
  obtain ⟨⟨⟨⟨⟨⟨hm, htx⟩, hty⟩, hox⟩, hoy⟩, hlen⟩, hps⟩ := hok
  have hlen' : ts.length = ps.size := Nat.eq_of_beq_eq_true hlen
  have hps' : ∀ p ∈ ps.toList, p < N := fun p hp => by
    have := Array.all_eq_true_iff_forall_mem.1 hps p (by simpa using hp)
    simpa using this
  show (Code.rangeFunc g ps x.code y.code).wpIn (Fn none) 0 P _ a w
  refine wpIn_rangeFunc ?_
  intro fn _
  obtain ⟨L, hL⟩ : ∃ L : Loop, L = { state := .ready, pending := none, fn, tmps := a.tmps, params := ps, assign := x.code, body := y.code, defers := w.heap.size } := ⟨_, rfl⟩
  obtain ⟨w1, hw1⟩ : ∃ w1, (w.alloc (.deferred (some []))).alloc (.loop L) = w1 := ⟨_, rfl⟩
  have hh1 : w1.heap = (w.heap.push (.deferred (some []))).push (.loop L) := by rw [← hw1]; rfl
  have hl1 : w1.heap[w.heap.size + 1]? = some (.loop L) := by
    rw [hh1, show w.heap.size + 1 = (w.heap.push (Obj.deferred (some []))).size by simp]
    exact Array.getElem?_push_size
  have hd1 : w1.heap[w.heap.size]? = some (.deferred (some [])) := by
    rw [hh1, Array.getElem?_push, if_neg (by simp)]
    exact Array.getElem?_push_size
  have hs1 : Same w w1 := by
    rw [← hw1]
    exact (Same.push w (.deferred (some []))).trans (Same.push _ (.loop L))
  have hyield : alShs (ts.map (shOf P)) fun vs => ∀ (h1 : Heap) (R : Ending → Heap → Prop), h1[w.heap.size + 1]? = w1.heap[w.heap.size + 1]? →
        vc P none N m x (thenQ (fun fr2 h2 => h2[w.heap.size + 1]? = h1[w.heap.size + 1]? ∧ ∀ h3, Turn (w.heap.size + 1) h2 h3 → vc P none N m y (roundQ (w.heap.size + 1) w1.heap h3 R) fr2 h3) noQ) (putsF ps.toList vs fr) h1 →
        CallVal P (.func (.yield (w.heap.size + 1)) #[] #[]) vs.toArray h1 R := by
    refine alShs_intro fun vs hvs h1 R he hv => ?_
    generalize w.heap.size + 1 = l at *
    intro wa hwa
    subst hwa
    have hla : wa.heap[l]? = some (.loop L) := he.trans hl1
    have hy := run_yield (P := P) (args := vs.toArray) hla (by rw [hL]; simp [hvs, hlen'])
    have hrun : (do let d ← Deferred.ofValue (.func (.yield l) #[] #[]) vs.toArray; invoke d.target d.args : Sem Next).run P wa =
        .ok (.round l L.fn ((L.params.zip vs.toArray).foldl (fun tmps (t, a) => tmps.setIfInBounds t a) L.tmps) L.assign L.body) wa := by
      simp only [Deferred.ofValue, Sem.run_bind, Sem.run_pure, Result.andThen_ok]
      simpa [invoke] using hy
    rw [hrun]
    show RoundIn Fence.wide 0 P l _ _ _ _ wa _
    have hagree : Agree N (putsF ps.toList vs fr) { tmps := (L.params.zip vs.toArray).foldl (fun tmps (t, a) => tmps.setIfInBounds t a) L.tmps, defers := [] } := by
      have := puts_agree ps.toList vs fr a.tmps ⟨hA.1, hA.2⟩ hps'
      rw [hL]
      have e : (ps.zip vs.toArray).foldl (fun tmps (t, a) => tmps.setIfInBounds t a) a.tmps = (ps.toList.zip vs).foldl (fun tmps (t, a) => tmps.setIfInBounds t a) a.tmps := by
        rw [← Array.foldl_toList, Array.toList_zip]
      rw [e]; exact this
    refine roundIn_of_wpIn trivial ?_
    rw [vc_tame (r' := some l) (m' := false) x htx] at hv
    have hx := ihx l (okC_tame x htx hox) (by rw [draws_tame x htx]; intro _ h; cases h) _ _ _ wa hagree hv
    rw [show L.assign = x.code by rw [hL], show L.body = y.code by rw [hL]]
    refine wpIn_mono hx ?_
    rintro e a2 w2 ⟨_, hs2, fr2, hA2, _, hq⟩
    have heq : e = .normal := Classical.byContradiction fun hne => qAt_noQ hne hq
    subst heq
    obtain ⟨hl2, hq⟩ := (show _ ∧ _ from hq)
    have hl2' : w2.heap[l]? = some (.loop L) := hl2.trans hla
    obtain ⟨hsb, htb, hlb⟩ := same_turn (L' := { L with state := .busy }) hl2'
    refine ⟨_, run_beginRound hl2' (by rw [hL]), ?_⟩
    have hv2 := hq _ htb
    rw [vc_tame (r' := some l) (m' := false) y hty] at hv2
    have hy2 := ihy l (okC_tame y hty hoy) (by rw [draws_tame y hty]; intro _ h; cases h) _ _ a2 _ hA2 hv2
    refine wpIn_mono hy2 ?_
    rintro e a4 w4 ⟨_, hs4, fr4, _, _, hq4⟩
    have hs : Same wa w4 := hs2.trans (hsb.trans hs4)
    have fin : ∀ jump : Option Code, w4.heap[l]? = (w2.putObj l (.loop { L with state := .busy })).heap[l]? →
        ∃ w5 L5, (Instr.endRound l jump).run P w4 = .ok (.bool jump.isNone) w5 ∧ Same wa w5 ∧ Turn l w4.heap w5.heap ∧ w5.heap[l]? = some (.loop L5) ∧ L5 = { L with state := if jump.isNone then .ready else .done, pending := jump } := fun jump he4 => by
      have hl4 := he4.trans hlb
      obtain ⟨hs5, ht5, hl5⟩ := same_turn (L' := { { L with state := .busy } with state := if jump.isNone then .ready else .done, pending := jump }) hl4
      exact ⟨_, _, run_endRound jump hl4, hs.trans hs5, ht5, hl5, rfl⟩
    cases e with
    | normal =>
      obtain ⟨he4, hR⟩ := (show _ ∧ _ from hq4)
      obtain ⟨w5, L5, hrun5, hs5, ht5, hl5, e5⟩ := fin none he4
      refine ⟨_, w5, hrun5, hs5, hR _ ht5 ?_⟩
      rw [hl5, hl1, e5, hL]; rfl
    | ret =>
      obtain ⟨he4, hR⟩ := (show _ ∧ _ from hq4)
      obtain ⟨w5, L5, hrun5, hs5, ht5, hl5, e5⟩ := fin (some .ret) he4
      exact ⟨_, w5, hrun5, hs5, hR _ ht5 ⟨L5, hl5, by rw [e5]; rfl, by rw [e5]⟩⟩
    | exit id =>
      obtain ⟨he4, hR⟩ := (show _ ∧ _ from hq4)
      obtain ⟨w5, L5, hrun5, hs5, ht5, hl5, e5⟩ := fin (some (.exit id)) he4
      exact ⟨_, w5, hrun5, hs5, hR _ ht5 ⟨L5, hl5, by rw [e5]; rfl, by rw [e5]⟩⟩
    | goto t => exact (show False from hq4).elim
    | panic c => exact ((show ∃ fr, False from hq4).elim fun _ h => h).elim
    | outgrown => exact (show False from hq4).elim
  have hit := (show ∀ (l : Nat) (h0 : Heap), Laid w.heap l h0 → _ from hk) (w.heap.size + 1) w1.heap ⟨rfl, L, hh1⟩ hyield
  unfold iterV at hit
  split at hit
  case h_2 => exact hit.elim
  rename_i gf first cap hg
  split at hit
  case h_2 => exact hit.elim
  rename_i c hfn
  obtain ⟨fn', hf', hb'⟩ := Option.bind_eq_some_iff.1 hfn
  have hf'' : P.funcs[gf]? = some fn' := by simpa using hf'
  have hev : a.eval g = .func (.func gf) first cap := by rw [hA.eval]; exact hg
  refine ⟨w.heap.size + 1, [{ target := .collected w.heap.size, args := #[] }], w1, { target := .fn (.func gf) cap, args := first ++ #[.func (.yield (w.heap.size + 1)) #[] #[]] }, w1, gf,
    (first ++ #[.func (.yield (w.heap.size + 1)) #[] #[]]) ++ cap, w1, ?_, ?_, ?_, ?_, fun h => by simp [Fn] at h, ?_⟩
  · rw [← hw1, hL]; exact run_enterLoop_outer _ _ _ _ _
  · simp only [resolve, hev]
    simp [go_sem, Deferred.ofValue, Act.eval]
  · intro f' _; trivial
  · simp only [invoke]
    exact enter_run hP hf'' hb' _ _
  · refine callsIn_Fn.2 ?_
    have hargs : ((first.toList ++ [Value.func (.yield (w.heap.size + 1)) #[] #[]]) ++ cap.toList).toArray = (first ++ #[Value.func (.yield (w.heap.size + 1)) #[] #[]]) ++ cap := by apply Array.ext'; simp
    rw [hargs] at hit
    refine (hit w1 rfl).mono ?_
    rintro e w4 ⟨hs4, hE⟩
    have hmark : ∀ w5 : World, Same w1 w5 → Marks m w.heap a.defers ([{ target := .collected w.heap.size, args := #[] }] ++ a.defers) w5.heap := fun w5 hs5 =>
      ⟨[w.heap.size], fun e => (by rw [hm] at e; cases e), rfl, by simp, fun r hr => by
        rw [List.mem_singleton.1 hr]
        exact ⟨Nat.le_refl _, hs5.2.2.2.2 _ hd1⟩⟩
    cases e with
    | returned v =>
      rcases (show _ ∨ _ from hE) with ⟨hl4, hq⟩ | hj
      · have hl4' := hl4.trans hl1
        obtain ⟨hs5, ht5, _⟩ := same_turn (L' := { L with state := .exhausted }) hl4'
        refine ⟨none, _, ?_, hmark _ (hs4.trans hs5), hs1.trans (hs4.trans hs5), fr, hA, Ext.refl _ _, hq _ ht5⟩
        have := run_endLoop (P := P) hl4' (by rw [hL]; simp)
        rw [this, hL]
      · obtain ⟨c, ⟨L4, hl4, hst, hpe⟩, hq⟩ := jumps_some hj
        obtain ⟨hs5, ht5, _⟩ := same_turn (L' := { L4 with state := .exhausted }) hl4
        have hrun := run_endLoop (P := P) hl4 (by rw [hst]; simp)
        rw [hpe] at hrun
        refine ⟨some (codeJ c), _, hrun, ?_⟩
        have hp : post N m [] Q fr a w (exitJ c) { a with defers := [{ target := .collected w.heap.size, args := #[] }] ++ a.defers } (w4.putObj (w.heap.size + 1) (.loop { L4 with state := .exhausted })) := by
          refine ⟨hmark _ (hs4.trans hs5), hs1.trans (hs4.trans hs5), fr, hA, Ext.refl _ _, ?_⟩
          have := hq _ ht5
          cases c <;> exact this
        rw [hpe] at hp
        cases c with
        | none => exact wpIn_ret hp
        | some id => exact wpIn_exit hp
    | panicked chain => exact ⟨hmark _ hs4, hs1.trans hs4, fr, hA, Ext.refl _ _, fr, hE⟩
    | outgrown => exact hE.elim

theorem vc_sound (hP : POK P) : ∀ (c : AC) {r : Option Nat} {m : Bool}, (m = true → r = none) → okC N m c = true → (∀ l ∈ drawsOf c, DrawOk P r N m l) → ∀ (Q : Exit → Fr → Heap → Prop) (fr : Fr) (a : Act) (w : World),
    Agree N fr a → vc P r N m c Q fr w.heap → c.code.wpIn (Fn r) 0 P (post N m c.ds Q fr a w) a w := by
  intro c
  induction c with
  | skip =>
    intro r m hrm _ _ Q fr a w hA hk
    exact wpIn_skip ⟨Marks.refl _ _ _ _, Same.refl w, fr, hA, Ext.refl _ _, hk⟩
  | ops id l =>
    intro r m hrm hok _ Q fr a w hA hk
    refine wpIn_region ?_
    have hr : List.range l.toArray.size = List.range' 0 l.length := by simp [List.range_eq_range']
    rw [hr]
    have hok' : l.all (opOk N) = true := hok
    have := ops_sound (r := r) (N := N) (m := m) hP (all := l) (Q := Q) hok' l 0 (by simp) fr fr a a w w hA rfl (Same.refl w) (Ext.refl _ _) hk
    exact wpOpsIn_mono' (fun e a' w' h => post_ds (opDs_sub id l) h) _ _ _ this
  | draw id l ords =>
    intro r m hrm hok hdr Q fr a w hA hk
    exact wpIn_mono (hdr (l, ords) (by simp [drawsOf]) id Q fr a w hA hk) fun e a' w' h => post_ds (opDs_sub id l) h
  | seq x y ihx ihy =>
    intro r m hrm hok hdr Q fr a w hA hk
    simp only [okC, Bool.and_eq_true] at hok
    refine seq_sound (dsx := x.ds) (dsy := y.ds) (ihx hrm hok.1 (fun l hl => hdr l (by simp [drawsOf, hl])) _ fr a w hA hk) ?_
    intro fr1 a1 w1 hA1 hd hs hx hk1
    exact wpIn_mono (ihy hrm hok.2 (fun l hl => hdr l (by simp [drawsOf, hl])) Q fr1 a1 w1 hA1 hk1) fun e a' w' h =>
      post_trans hd hs hx (fun t ht => List.mem_append.2 (.inl ht)) (fun t ht => List.mem_append.2 (.inr ht)) h
  | join live dead x y ihx ihy =>
    intro r m hrm hok hdr Q fr a w hA hk
    simp only [okC, Bool.and_eq_true] at hok
    obtain ⟨⟨⟨⟨hox, hoy⟩, hcov⟩, hl1⟩, hl2⟩ := hok
    obtain ⟨J, hkx, hky⟩ := hk
    refine seq_sound (dsx := x.ds) (dsy := y.ds) (ihx hrm hox (fun l hl => hdr l (by simp [drawsOf, hl])) _ fr a w hA hkx) ?_
    intro fr1 a1 w1 hA1 hd hs hx hk1
    obtain ⟨hsh, hJ⟩ := chk_of hk1
    have hk2 := alShs_of hky hsh (fun t => gt fr1 t) w1.heap hJ
    have hA2 : Agree N (updF live (vals live fr1) dead (fun t => gt fr1 t) fr) a1 := by
      refine ⟨hA1.1, fun t => ?_⟩
      rw [gt_updF_vals, hA1.2 t]
      split
      · rfl
      · rename_i hn
        refine hx t fun hm => hn ?_
        have := List.all_eq_true.1 hcov t hm
        simpa using this
    have hx2 : Ext x.ds fr (updF live (vals live fr1) dead (fun t => gt fr1 t) fr) := by
      intro t ht
      rw [gt_updF_vals]
      split
      · rename_i hm
        exfalso
        rcases hm with hm | hm
        · have := List.all_eq_true.1 hl1 t hm; exact ht (by simpa using this)
        · have := List.all_eq_true.1 hl2 t hm; exact ht (by simpa using this)
      · rfl
    exact wpIn_mono (ihy hrm hoy (fun l hl => hdr l (by simp [drawsOf, hl])) Q _ a1 w1 hA2 hk2) fun e a' w' h =>
      post_trans hd hs hx2 (fun t ht => List.mem_append.2 (.inl ht)) (fun t ht => List.mem_append.2 (.inr ht)) h
  | cond c x y ihx ihy =>
    intro r m hrm hok hdr Q fr a w hA hk
    simp only [okC, Bool.and_eq_true] at hok
    obtain ⟨t, hc, hk⟩ := onBool_some hk
    have hc' : a.eval c = .bool t := by rw [hA.eval]; exact hc
    refine wpIn_cond hc' ?_
    rcases cnd_of hk with ⟨rfl, hk'⟩ | ⟨rfl, hk'⟩
    · exact wpIn_mono (ihx hrm hok.1 (fun l hl => hdr l (by simp [drawsOf, hl])) Q fr a w hA hk') fun e a' w' h => post_ds (fun t ht => List.mem_append.2 (.inl ht)) h
    · exact wpIn_mono (ihy hrm hok.2 (fun l hl => hdr l (by simp [drawsOf, hl])) Q fr a w hA hk') fun e a' w' h => post_ds (fun t ht => List.mem_append.2 (.inr ht)) h
  | block id x ih =>
    intro r m hrm hok hdr Q fr a w hA hk
    refine wpIn_block (wpIn_mono (ih hrm hok hdr _ fr a w hA hk) ?_)
    intro e a' w' hp
    obtain ⟨hd, hs, fr1, hA1, hxt, hq⟩ := hp
    cases e with
    | exit j =>
      simp only [Exit.inBlock]
      have hq' : blkQ id Q (.exit j) fr1 w'.heap := hq
      simp only [blkQ] at hq'
      split at hq'
      · rename_i hb
        rw [if_pos (Nat.eq_of_beq_eq_true hb)]
        exact ⟨hd, hs, fr1, hA1, hxt, hq'⟩
      · rename_i hb
        rw [if_neg (Nat.ne_of_beq_eq_false hb)]
        exact ⟨hd, hs, fr1, hA1, hxt, hq'⟩
    | normal => exact ⟨hd, hs, fr1, hA1, hxt, hq⟩
    | goto l => exact ⟨hd, hs, fr1, hA1, hxt, hq⟩
    | ret => exact ⟨hd, hs, fr1, hA1, hxt, hq⟩
    | panic c => exact ⟨hd, hs, fr1, hA1, hxt, hq⟩
    | outgrown => exact ⟨hd, hs, fr1, hA1, hxt, hq⟩
  | loop live dead x ih =>
    intro r m hrm hok hdr Q fr a w hA hk
    simp only [okC, Bool.and_eq_true] at hok
    obtain ⟨hox, hcov⟩ := hok
    obtain ⟨I, μ, h0, hround⟩ := hk
    have hup : ∀ fr1, Ext ((live.map (·.1) ++ dead) ++ x.ds) fr fr1 → ∀ a1, Agree N fr1 a1 → Agree N (updF live (vals live fr1) dead (fun t => gt fr1 t) fr) a1 := by
      intro fr1 hx a1 hA1
      refine ⟨hA1.1, fun t => ?_⟩
      rw [gt_updF_vals, hA1.2 t]
      split
      · rfl
      · rename_i hn
        refine hx t fun hm => ?_
        rcases List.mem_append.1 hm with hm | hm
        · exact hn (List.mem_append.1 hm)
        · have := List.all_eq_true.1 hcov t hm
          exact hn (by simpa using this)
    have hxu : ∀ fr1, Ext ((live.map (·.1) ++ dead) ++ x.ds) fr (updF live (vals live fr1) dead (fun t => gt fr1 t) fr) := by
      intro fr1 t ht
      rw [gt_updF_vals, if_neg]
      intro hm
      exact ht (List.mem_append.2 (.inl (List.mem_append.2 hm)))
    refine wpIn_loop
      (fun a1 w1 => Marks m w.heap a.defers a1.defers w1.heap ∧ Same w w1 ∧ ∃ fr1, Agree N fr1 a1 ∧ Ext ((live.map (·.1) ++ dead) ++ x.ds) fr fr1 ∧ isShs (shs P live) (vals live fr1) = true ∧ I (vals live fr1) w1.heap)
      (fun a1 w1 => μ (live.map fun p => a1.tmps.getD p.1 undef) w1.heap) ?_ ?_
    · obtain ⟨hsh, hI⟩ := chk_of h0
      exact ⟨Marks.refl _ _ _ _, Same.refl w, fr, hA, Ext.refl _ _, hsh, hI⟩
    · rintro a1 w1 ⟨hd, hs, fr1, hA1, hx1, hsh, hI⟩
      have hk2 := alShs_of hround hsh (fun t => gt fr1 t) w1.heap hI
      have hA2 := hup fr1 hx1 a1 hA1
      have hmu1 : (live.map fun p => a1.tmps.getD p.1 undef) = vals live fr1 := by
        simp only [vals]; exact List.map_congr_left fun p _ => hA1.2 p.1
      refine wpIn_mono (ih hrm hox hdr _ _ a1 w1 hA2 hk2) ?_
      intro e a2 w2 hp
      obtain ⟨hd2, hs2, fr2, hA3, hx2, hq⟩ := hp
      have hd3 := hd.trans hd2 hs.2.2.2.1 hs2.2.2.2
      have hx3 : Ext ((live.map (·.1) ++ dead) ++ x.ds) fr fr2 := (hxu fr1).trans (hx2.mono fun t ht => List.mem_append.2 (.inr ht))
      cases e with
      | normal =>
        obtain ⟨hsh2, hI2, hlt⟩ := chk_of (show chk _ _ from hq)
        refine ⟨⟨hd3, hs.trans hs2, fr2, hA3, hx3, hsh2, hI2⟩, ?_⟩
        have hmu2 : (live.map fun p => a2.tmps.getD p.1 undef) = vals live fr2 := by
          simp only [vals]; exact List.map_congr_left fun p _ => hA3.2 p.1
        rw [hmu1, hmu2]
        exact hlt
      | exit id => exact ⟨hd3, hs.trans hs2, fr2, hA3, hx3, qAt_thenQ (by simp) hq⟩
      | goto l => exact ⟨hd3, hs.trans hs2, fr2, hA3, hx3, qAt_thenQ (by simp) hq⟩
      | ret => exact ⟨hd3, hs.trans hs2, fr2, hA3, hx3, qAt_thenQ (by simp) hq⟩
      | panic c => exact ⟨hd3, hs.trans hs2, fr2, hA3, hx3, qAt_thenQ (by simp) hq⟩
      | outgrown => exact ⟨hd3, hs.trans hs2, fr2, hA3, hx3, qAt_thenQ (by simp) hq⟩
  | exit id =>
    intro r m hrm _ _ Q fr a w hA hk
    exact wpIn_exit ⟨Marks.refl _ _ _ _, Same.refl w, fr, hA, Ext.refl _ _, hk⟩
  | ret =>
    intro r m hrm _ _ Q fr a w hA hk
    exact wpIn_ret ⟨Marks.refl _ _ _ _, Same.refl w, fr, hA, Ext.refl _ _, hk⟩
  | raw c ds =>
    intro r m hrm _ _ Q fr a w hA hk
    exact hk a w rfl hA
  | range ts g ps x y ihx ihy =>
    intro r m hrm hok hdr Q fr a w hA hk
    exact range_sound hP (fun l => ihx (r := some l) (m := false) (fun h => by cases h)) (fun l => ihy (r := some l) (m := false) (fun h => by cases h)) (hrm (by simp only [okC, Bool.and_eq_true] at hok; exact hok.1.1.1.1.1.1)) hok hA hk

end
/-! ## A function's contract -/

def resV (P : Program) : List ResultVar → Fr → Heap → (List Value → Prop) → Prop
  | [], _, _, K => K []
  | .tmp t :: rs, fr, h, K => resV P rs fr h fun vs => K (gt fr t :: vs)
  | .cell a t :: rs, fr, h, K => chk (P.underlying t).isSome (onAddr (gt fr a) fun ad => ldV P t h ad fun v => resV P rs fr h fun vs => K (v :: vs))

def retV : List Value → Value
  | [v] => v
  | vs => .tuple vs.toArray

def retQ (P : Program) (rs : List ResultVar) (R : Ending → Heap → Prop) : Exit → Fr → Heap → Prop
  | .normal, fr, h => resV P rs fr h fun vs => R (.returned (retV vs)) h
  | .ret, fr, h => resV P rs fr h fun vs => R (.returned (retV vs)) h
  | .panic c, _, h => R (.panicked c) h
  | _, _, _ => False

def argF : Nat → List Value → Fr
  | _, [] => []
  | i, v :: vs => (i, v) :: argF (i + 1) vs

theorem gt_argF (vs : List Value) : ∀ (i t : Nat), gt (argF i vs) t = if i ≤ t then (vs[t - i]?).getD undef else undef := by
  induction vs with
  | nil => intro i t; simp [argF, gt]
  | cons v vs ih =>
    intro i t
    rw [argF, gt_cons, ih]
    by_cases e : i = t
    · subst e; simp
    · rw [if_neg e]
      by_cases hl : i ≤ t
      · rw [if_pos hl, if_pos (by omega)]
        obtain ⟨k, rfl⟩ : ∃ k, t = i + k + 1 := ⟨t - i - 1, by omega⟩
        rw [show i + k + 1 - (i + 1) = k from by omega, show i + k + 1 - i = k + 1 from by omega]
        simp
      · rw [if_neg hl, if_neg (by omega)]

theorem agree_args (args : List Value) (n : Nat) (hn : args.length ≤ n) :
    Agree n (argF 0 args) { tmps := args.toArray ++ Array.replicate (n - args.toArray.size) undef, defers := [] } := by
  refine ⟨by simp; omega, fun t => ?_⟩
  rw [gt_argF, if_pos (Nat.zero_le _), Nat.sub_zero]
  simp only [Array.getD_eq_getD_getElem?, Array.getElem?_append, List.size_toArray, Array.getElem?_replicate, List.getElem?_toArray]
  by_cases h : t < args.length
  · rw [if_pos h]
  · rw [if_neg h, List.getElem?_eq_none (by omega)]
    split <;> rfl

section
variable {P : Program}

def resOne (tmps : Array Value) : ResultVar → Sem Value
  | .tmp t => pure (tmps.getD t undef)
  | .cell x t => do loadVar t (← asAddr (tmps.getD x undef))

theorem results_eq (fn : Func) (tmps : Array Value) : results fn tmps = (do
    let vs ← fn.results.mapM (resOne tmps)
    pure (if h : vs.size = 1 then vs[0] else .tuple vs)) := rfl

theorem res_run : ∀ (rs : List ResultVar) (fr : Fr) (a : Act) (N : Nat) (w : World) (K : List Value → Prop), Agree N fr a → resV P rs fr w.heap K →
    ∃ vs, K vs ∧ (rs.mapM (resOne a.tmps)).run P w = .ok vs w := by
  intro rs
  induction rs with
  | nil => intro fr a N w K _ h; exact ⟨[], h, by simp⟩
  | cons x rs ih =>
    intro fr a N w K hA h
    cases x with
    | tmp t =>
      obtain ⟨vs, hk, hr⟩ := ih fr a N w _ hA h
      refine ⟨_, hk, ?_⟩
      rw [List.mapM_cons]
      simp only [resOne, Sem.run_bind, Sem.run_pure, Result.andThen_ok, hr, hA.2 t]
    | cell ad t =>
      obtain ⟨hu, h⟩ := chk_of h
      obtain ⟨p, hp, h⟩ := onAddr_some h
      obtain ⟨v, hr1, h2⟩ := ld_same hu h
      obtain ⟨vs, hk, hr⟩ := ih fr a N w _ hA h2
      refine ⟨_, hk, ?_⟩
      rw [List.mapM_cons]
      have has : (asAddr (a.tmps.getD ad undef)).run P w = .ok p w := by rw [hA.2 ad, hp]; rfl
      simp only [resOne, Sem.run_bind, Sem.run_pure, Result.andThen_ok, has, hr1, hr]

theorem results_run {fn : Func} {fr : Fr} {a : Act} {N : Nat} {w : World} {K : List Value → Prop} (hA : Agree N fr a) (h : resV P fn.results.toList fr w.heap K) :
    ∃ vs, K vs ∧ (results fn a.tmps).run P w = .ok (retV vs) w := by
  obtain ⟨vs, hk, hr⟩ := res_run fn.results.toList fr a N w K hA h
  refine ⟨vs, hk, ?_⟩
  rw [results_eq, Array.mapM_eq_mapM_toList]
  simp only [Sem.run_bind, Sem.run_map, hr, Result.andThen_ok, Sem.run_pure]
  congr 1
  cases vs with
  | nil => rfl
  | cons v vs => cases vs <;> simp [retV]

theorem calls_of_vc (hP : POK P) {f : FuncId} {fn : Func} {ac : AC} {args : List Value} {h : Heap} {R : Ending → Heap → Prop}
    (hf : P.funcs[f]? = some fn) (hb : fn.body = some ac.code) (hok : okC fn.ntmps false ac = true) (hdr : ∀ l ∈ drawsOf ac, DrawOk P none fn.ntmps false l) (hn : args.length ≤ fn.ntmps)
    (hk : vc P none fn.ntmps false ac (retQ P fn.results.toList R) (argF 0 args) h) : CallsH P f args.toArray h R := by
  intro w hw
  refine calls_of_wp hf hb ?_
  have hA := agree_args args fn.ntmps hn
  have hs := vc_sound hP ac (r := none) (m := false) (fun h => by cases h) hok hdr (retQ P fn.results.toList R) (argF 0 args) _ w hA (hw ▸ hk)
  have hs' := (wpIn_wide (n := 0)).1 hs
  refine wp_mono hs' ?_
  intro e a' w' hp
  obtain ⟨⟨rs, hm, hd, _⟩, hsame, fr', hA', _, hq⟩ := hp
  have hd' : a'.defers = [] := by rw [hd, hm rfl]; rfl
  cases e with
  | normal =>
    obtain ⟨vs, hR, hr⟩ := results_run hA' (show resV P fn.results.toList fr' w'.heap _ from hq)
    exact ⟨hd', _, hr, hsame, hR⟩
  | ret =>
    obtain ⟨vs, hR, hr⟩ := results_run hA' (show resV P fn.results.toList fr' w'.heap _ from hq)
    exact ⟨hd', _, hr, hsame, hR⟩
  | panic c =>
    obtain ⟨_, hq⟩ := hq
    exact ⟨hd', hsame, hq⟩
  | exit id => exact (show False from hq).elim
  | goto l => exact (show False from hq).elim
  | outgrown => exact (show False from hq).elim

theorem Shut.step {n : Nat} {h h1 h2 : Heap} {r : Nat} (hn : n ≤ r) (hr : h[r]? = some (Obj.deferred (some []))) (h1s : h1.size = h.size) (h1o : ∀ b : Nat, b ≠ r → h1[b]? = h[b]?) (hs : Shut n h1 h2) : Shut n h h2 := by
  refine ⟨hs.1.trans h1s, fun b => ?_⟩
  by_cases e : b = r
  · subst e; exact .inr ⟨hn, hr⟩
  · rcases hs.2 b with h | ⟨h, k⟩
    · exact .inl (h.trans (h1o b e))
    · exact .inr ⟨h, (h1o b e) ▸ k⟩

/-- The marks on a frame's way out. -/
theorem leaves_marks {fn : Func} {tmps : Array Value} {R : Ending → World → Prop} {n0 : Nat} : ∀ (rs : List Nat) (w : World), rs.Nodup → (∀ r ∈ rs, n0 ≤ r ∧ w.heap[r]? = some (Obj.deferred (some []))) →
    ∀ u : FrameMode, u ≠ .run → (∀ w', Shut n0 w.heap w'.heap → w'.os = w.os → w'.output = w.output → w'.tape = w.tape → LeavesIn (Fn none) 0 P fn tmps R [] u w') → LeavesInM (Fn none) 0 P fn tmps R (rs.map markOf) u w
  | [], w, _, _, u, hu, hk => hk w ⟨rfl, fun _ => .inl rfl⟩ rfl rfl rfl
  | r :: rs, w, hnd, hr, u, hu, hk => by
    have hr1 := hr r List.mem_cons_self
    have hnd' := List.nodup_cons.1 hnd
    have ho : ∀ b : Nat, b ≠ r → (w.putObj r (.deferred none)).heap[b]? = w.heap[b]? := fun b hb => World.putObj_heap_other hb
    refine ⟨hu, .inl ⟨r, _, rfl, run_takeDeferred hr1.2, ?_⟩⟩
    refine leaves_marks rs _ hnd'.2 (fun r' hr' => ⟨(hr r' (List.mem_cons_of_mem _ hr')).1, ?_⟩) u hu fun w' hs h1 h2 h3 => hk w' (hs.step hr1.1 hr1.2 (by rw [World.putObj_size]) ho) h1 h2 h3
    rw [ho r' (fun e => hnd'.1 (e ▸ hr'))]
    exact (hr r' (List.mem_cons_of_mem _ hr')).2

theorem kept_shut {h h1 h2 : Heap} (k : Kept h h1) (s : Shut h.size h1 h2) : Kept h h2 :=
  ⟨by rw [s.1]; exact k.1, fun r hr => by
    rcases s.2 r with e | ⟨e, _⟩
    · rw [e]; exact k.2 r hr
    · have := (Array.getElem?_eq_some_iff.1 hr).1; omega⟩

/-- What is said at the end of a function that holds a range over a function: behind its marks. -/
def retM (P : Program) (rs : List ResultVar) (n : Nat) (R : Ending → Heap → Prop) : Exit → Fr → Heap → Prop
  | .normal, fr, h => ∀ h2, Shut n h h2 → resV P rs fr h2 fun vs => R (.returned (retV vs)) h2
  | .ret, fr, h => ∀ h2, Shut n h h2 → resV P rs fr h2 fun vs => R (.returned (retV vs)) h2
  | .panic c, _, h => ∀ h2, Shut n h h2 → R (.panicked c) h2
  | _, _, _ => False

/-- A function that holds a range over a function. -/
theorem calls_of_vc_m (hP : POK P) {f : FuncId} {fn : Func} {ac : AC} {args : List Value} {h : Heap} {R : Ending → Heap → Prop}
    (hf : P.funcs[f]? = some fn) (hb : fn.body = some ac.code) (hok : okC fn.ntmps true ac = true) (hdr : ∀ l ∈ drawsOf ac, DrawOk P none fn.ntmps true l) (hn : args.length ≤ fn.ntmps)
    (hk : vc P none fn.ntmps true ac (retM P fn.results.toList h.size R) (argF 0 args) h) : CallsH P f args.toArray h R := by
  intro w hw
  subst hw
  refine (callsIn_Fn (r := none) (n := 0)).1 ?_
  refine callsIn_of_wp_marks hf hb trivial ?_
  have hA := agree_args args fn.ntmps hn
  have hs := vc_sound hP ac (r := none) (m := true) (fun _ => rfl) hok hdr _ (argF 0 args) _ w hA hk
  refine wpIn_mono hs ?_
  intro e a' w' hp
  obtain ⟨⟨rs, _, hd, hnd, hrs⟩, hsame, fr', hA', _, hq⟩ := hp
  have hd' : a'.defers = rs.map markOf := by rw [hd]; simp
  have same2 : ∀ w2 : World, Shut w.heap.size w'.heap w2.heap → w2.os = w'.os → w2.output = w'.output → w2.tape = w'.tape → Same w w2 := fun w2 hs h1 h2 h3 =>
    ⟨h1.trans hsame.1, h2.trans hsame.2.1, h3.trans hsame.2.2.1, kept_shut hsame.2.2.2 hs⟩
  have done : (∀ h2, Shut w.heap.size w'.heap h2 → resV P fn.results.toList fr' h2 fun vs => R (.returned (retV vs)) h2) → LeavesInM (Fn none) 0 P fn a'.tmps (fun e w' => Same w w' ∧ R e w'.heap) a'.defers .returning w' := fun hq => by
    rw [hd']
    refine leaves_marks (n0 := w.heap.size) rs w' hnd hrs _ (by simp) fun w2 hs h1 h2 h3 => ?_
    obtain ⟨vs, hR, hr⟩ := results_run (w := w2) hA' (hq _ hs)
    exact ⟨_, hr, same2 w2 hs h1 h2 h3, hR⟩
  cases e with
  | normal => exact done hq
  | ret => exact done hq
  | panic c =>
    obtain ⟨fr2, hq⟩ := hq
    show LeavesInM (Fn none) 0 P fn a'.tmps _ a'.defers (.panicking c) w'
    rw [hd']
    exact leaves_marks (n0 := w.heap.size) rs w' hnd hrs _ (by simp) fun w2 hs h1 h2 h3 => ⟨same2 w2 hs h1 h2 h3, hq _ hs⟩
  | exit id => exact (show False from hq).elim
  | goto l => exact (show False from hq).elim
  | outgrown => exact (show False from hq).elim

end
/-! ## Annotating code -/

inductive Ann where
  | s
  | d (ords : List (List Nat))
  | j (live : List (Nat × TypeId)) (dead : List Nat)
  | l (live : List (Nat × TypeId)) (dead : List Nat)
  | r (ts : List TypeId)

def mkAC : Code → List Ann → AC × List Ann
  | .skip, l => (.skip, l)
  | .region id ops true, .d ords :: l => (.draw id ops.toList ords, l)
  | .region id ops true, l => (.draw id ops.toList [], l.tail)
  | .region id ops false, l => (.ops id ops.toList, l)
  | .seq a b, .j live dead :: l => (.join live dead (mkAC a l).1 (mkAC b (mkAC a l).2).1, (mkAC b (mkAC a l).2).2)
  | .seq a b, l => (.seq (mkAC a l.tail).1 (mkAC b (mkAC a l.tail).2).1, (mkAC b (mkAC a l.tail).2).2)
  | .cond c a b, l => (.cond c (mkAC a l).1 (mkAC b (mkAC a l).2).1, (mkAC b (mkAC a l).2).2)
  | .block id a, l => (.block id (mkAC a l).1, (mkAC a l).2)
  | .loop a, .l live dead :: l => (.loop live dead (mkAC a l).1, (mkAC a l).2)
  | .loop a, l => (.loop [] [] (mkAC a l.tail).1, (mkAC a l.tail).2)
  | .exit id, l => (.exit id, l)
  | .ret, l => (.ret, l)
  | .rangeFunc g ps a b, .r ts :: l => (.range ts g ps (mkAC a l).1 (mkAC b (mkAC a l).2).1, (mkAC b (mkAC a l).2).2)
  | c, l => (.raw c [], l)

def mkA (fn : Func) (l : List Ann) : AC := (mkAC (fn.body.getD .skip) l).1

theorem draws_none {P : Program} {r : Option Nat} {N : Nat} {m : Bool} {ac : AC} (h : (drawsOf ac).isEmpty = true) : ∀ l ∈ drawsOf ac, DrawOk P r N m l := by
  intro l hl
  rw [List.isEmpty_iff.1 h] at hl
  cases hl
/-! ## Regions that draw their order: the classes -/

section
variable {P : Program}

theorem vbin_noels {op : BinOp} {t : TypeId} {x y : Value} {K : Value → Prop} {els : Prop}
    (hd : (match x, y with
      | .int _ _, .int _ _ => true
      | .string _, .string _ => true
      | .bool _, .bool _ => (match op with | .eql => true | .neq => true | _ => false)
      | .pointer _, .pointer none => (match op with | .eql => true | .neq => true | _ => false)
      | .slice _ _ _, .slice none _ _ => (match op with | .eql => true | .neq => true | _ => false)
      | .map _, .map none => (match op with | .eql => true | .neq => true | _ => false)
      | _, _ => false) = true) (hk : vbin P op t x y K els) : vbin P op t x y K False := by
  split at hd
  · exact hk
  · exact hk
  · cases op <;> first | exact hk | (simp at hd; done)
  · cases op <;> first | exact hk | (simp at hd; done)
  · cases op <;> first | exact hk | (simp at hd; done)
  · cases op <;> first | exact hk | (simp at hd; done)
  · cases hd

theorem vconv_noels {s d : TypeId} {x : Value} {K : Value → Prop} {els : Prop}
    (hd : (match P.underlying d, x with
      | some (.int _), .int _ _ => true
      | some .string, .string _ => true
      | _, _ => false) = true) (hk : vconv P s d x K els) : vconv P s d x K False := by
  unfold vconv at hk ⊢
  revert hd hk
  cases P.underlying d with
  | none => intro hd; simp at hd
  | some e =>
    cases e <;> cases x <;> intro hd hk <;> first
      | exact hk
      | (simp at hd; done)

theorem builtin_free {b : Builtin} {ts : Array TypeId} {ty : TypeId} {args : Array Value} {cs : Array Bool} {h : Heap} {K : Value → Heap → Prop}
    (hd : (match b, args.toList with
      | .len, [.slice _ _ _] => true
      | .len, [.string _] => true
      | .cap, [.slice _ _ _] => true
      | .min, [.int _ _, .int _ _] => true
      | .max, [.int _ _, .int _ _] => true
      | _, _ => false) = true)
    (hk : builtinV P b ts ty args.toList h K)
    (ht : b = .len → ∃ t, ts.toList = [t]) : ∃ v, K v h ∧ ∀ w : World, (builtin b ts ty cs args).run P w = .ok (.value v) w := by
  have hargs : ∀ l, args.toList = l → args = l.toArray := fun l hl => by apply Array.ext'; simpa using hl
  have hc : (b = .len ∧ ∃ a n c, args.toList = [.slice a n c]) ∨ (b = .len ∧ ∃ s, args.toList = [.string s]) ∨ (b = .cap ∧ ∃ a n c, args.toList = [.slice a n c]) ∨
      (b = .min ∧ ∃ k x j y, args.toList = [.int k x, .int j y]) ∨ (b = .max ∧ ∃ k x j y, args.toList = [.int k x, .int j y]) := by
    clear hk ht
    split at hd
    · rename_i ha; exact .inl ⟨rfl, _, _, _, ha⟩
    · rename_i ha; exact .inr (.inl ⟨rfl, _, ha⟩)
    · rename_i ha; exact .inr (.inr (.inl ⟨rfl, _, _, _, ha⟩))
    · rename_i ha; exact .inr (.inr (.inr (.inl ⟨rfl, _, _, _, _, ha⟩)))
    · rename_i ha; exact .inr (.inr (.inr (.inr ⟨rfl, _, _, _, _, ha⟩)))
    · cases hd
  rcases hc with ⟨rfl, a, n, c, ha⟩ | ⟨rfl, s, ha⟩ | ⟨rfl, a, n, c, ha⟩ | ⟨rfl, k, x, j, y, ha⟩ | ⟨rfl, k, x, j, y, ha⟩
  · obtain ⟨t, ht⟩ := ht rfl
    have ht' : ts = #[t] := by apply Array.ext'; simpa using ht
    subst ht'
    rw [hargs _ ha]
    rw [ha] at hk
    obtain ⟨hs, hk⟩ := chk_of (show chk (isSliceT P t) (K (.int .i64 (n : Int)) h) from hk)
    obtain ⟨e, hu⟩ := isSlice_of hs
    exact ⟨_, hk, fun w => by simp [builtin, Builtin.len_, run_underlying hu, goInt]⟩
  · obtain ⟨t, ht⟩ := ht rfl
    have ht' : ts = #[t] := by apply Array.ext'; simpa using ht
    subst ht'
    rw [hargs _ ha]
    rw [ha] at hk
    have hk : (match P.underlying t with | some .string => K (.int .i64 (s.size : Int)) h | _ => False) := hk
    split at hk
    · rename_i hu
      exact ⟨_, hk, fun w => by simp [builtin, Builtin.len_, run_underlying hu, goInt]⟩
    · exact hk.elim
  · rw [hargs _ ha]
    rw [ha] at hk
    unfold builtinV at hk
    simp only [] at hk
    split at hk
    · rename_i t a n c ht ha
      obtain ⟨hs, hk⟩ := chk_of hk
      obtain ⟨e, hu⟩ := isSlice_of hs
      have ht' : ts = #[t] := by apply Array.ext'; simpa using ht
      subst ht'
      simp only [List.cons.injEq, Value.slice.injEq, and_true] at ha
      obtain ⟨rfl, rfl, rfl⟩ := ha
      exact ⟨_, hk, fun w => by simp [builtin, Builtin.cap_, run_underlying hu, goInt]⟩
    · exact hk.elim
  · rw [hargs _ ha]
    rw [ha] at hk
    exact ⟨_, (show K (.int k (mn x y)) h from hk), fun w => by simp [builtin, Builtin.min_, Builtin.min2, mn]⟩
  · rw [hargs _ ha]
    rw [ha] at hk
    exact ⟨_, (show K (.int k (mx x y)) h from hk), fun w => by simp [builtin, Builtin.max_, Builtin.max2, mx]⟩

theorem len_types {o : Oper} {c : Call} {b : Builtin} (hc : sclsB P o = .free) (ho : o.op = .call c) (hb : c.callee = .builtin b) : b = .len → ∃ t, c.argTypes.toList = [t] := by
  rintro rfl
  simp only [sclsB, ho, hb] at hc
  split at hc
  · rename_i t ht; exact ⟨t, ht⟩
  · simp at hc

/-- An operation of the free class comes to one value, whatever the world. -/
theorem cls_free {o : Oper} {ρ : Operand → Value} {h : Heap} {K : Value → Heap → Prop} {QP : List PanicEntry → Heap → Prop}
    (hk : vcOp P o ρ h K QP) (hc : sclsB P o = .free) (hd : dynB P o ρ = true) : ∃ v, (∀ w : World, (execOp ρ o).run P w = .ok (.value v) w) ∧ K v h := by
  have pureCase : ∀ {s : Sem Value}, execOp ρ o = (do pure (.value (← s))) → (∃ v, K v h ∧ ∀ w : World, s.run P w = .ok v w) → ∃ v, (∀ w : World, (execOp ρ o).run P w = .ok (.value v) w) ∧ K v h :=
    fun he ⟨v, hv, hr⟩ => ⟨v, fun w => by rw [he]; simp [hr w], hv⟩
  unfold vcOp at hk
  split at hk
  case h_1 x ho => exact pureCase (s := pure (ρ x)) (by simp [execOp, ho]) ⟨_, hk, fun w => by simp⟩
  case h_2 x ho => exact pureCase (s := pure (ρ x)) (by simp [execOp, ho]) ⟨_, hk, fun w => by simp⟩
  case h_3 c a b ho =>
    obtain ⟨t, hcv, hk⟩ := onBool_some hk
    rcases cnd_of hk with ⟨rfl, hk⟩ | ⟨rfl, hk⟩
    · exact ⟨_, fun w => by simp [execOp, ho, hcv, asBool], hk⟩
    · exact ⟨_, fun w => by simp [execOp, ho, hcv, asBool], hk⟩
  case h_4 t ho => simp [sclsB, ho] at hc
  case h_5 t x ho => simp [sclsB, ho] at hc
  case h_6 t ps ho =>
    obtain ⟨v, hv, hr⟩ := build_pure (P := P) (t := t) (ps := ps.map fun (i, x) => (i, ρ x)) (K := fun v => K v h) (by simpa using hk)
    exact pureCase (s := Instr.build t (ps.map fun (i, x) => (i, ρ x))) (by simp only [execOp, ho]) ⟨v, hv, hr⟩
  case h_7 t n ps ho => simp [sclsB, ho] at hc
  case h_8 t x ho => simp [sclsB, ho] at hc
  case h_9 t x y ho => simp [sclsB, ho] at hc
  case h_10 x ho =>
    unfold nilV at hk
    split at hk
    · rename_i a ha
      obtain ⟨p, rfl, hk⟩ := onSome_some hk
      exact ⟨_, fun w => by simp [execOp, ho, ha], hk⟩
    · exact hk.elim
    · exact hk.elim
    · rename_i fn f c hf
      split at hk
      · exact hk.elim
      · rename_i hne
        refine ⟨_, fun w => ?_, hk⟩
        simp only [execOp, ho, hf]
        cases fn <;> first
          | rfl
          | exact absurd rfl (hne _)
    · rename_i h1 h2 h3 h4
      refine ⟨ρ x, fun w => ?_, hk⟩
      simp only [execOp, ho]
      split <;> rename_i hx
      · exact absurd hx (h1 _)
      · exact absurd hx h2
      · exact absurd hx h3
      · exact absurd hx (h4 _ _ _)
      · rfl
  case h_11 op t x y yt ho =>
    have he : execOp ρ o = (do pure (.value (← binS op t x y (ρ x) (ρ y)))) := by simp only [execOp, ho, binS]
    have hd' := hd
    simp only [dynB, ho] at hd'
    rcases bin_sound (P := P) (ox := x) (oy := y) (vbin_noels hd' hk) with hk | hk
    · exact hk.elim
    · exact pureCase he hk
  case h_12 op t x ho => exact pureCase (by simp only [execOp, ho]) (un_sound hk)
  case h_13 s d x ho =>
    have hd' := hd
    simp only [dynB, ho] at hd'
    rcases conv_sound (P := P) (vconv_noels hd' hk) with hk | hk
    · exact hk.elim
    · exact pureCase (by simp only [execOp, ho]) hk
  case h_14 t x ho =>
    obtain ⟨ht, hk⟩ := chk_of hk
    exact pureCase (by simp only [execOp, ho]) ⟨_, hk, iface_run ht⟩
  case h_15 fn f c ho =>
    refine pureCase (s := Instr.makeFunc fn (f.map ρ) (c.map ρ)) (by simp only [execOp, ho]) ⟨_, hk, fun w => ?_⟩
    have hm : ∀ xs : Array Operand, xs.map ρ = (xs.toList.map ρ).toArray := fun xs => by apply Array.ext'; simp
    simp [Instr.makeFunc, hm]
  case h_16 t ho => simp [sclsB, ho] at hc
  case h_17 t x ho => simp [sclsB, ho] at hc
  case h_18 t l c ho => simp [sclsB, ho] at hc
  case h_19 t x lo hi m ho => exact pureCase (by simp only [execOp, ho]) (slice_sound hk)
  case h_20 s x f ho =>
    obtain ⟨off, hoff, hk⟩ := onSome_some hk
    obtain ⟨a, ha, hk⟩ := onAddr_some hk
    exact pureCase (s := Instr.fieldAt s (ρ x) f) (by simp only [execOp, ho]) ⟨_, hk, fun w => by rw [ha]; exact fieldOff_run hoff a w⟩
  case h_21 t x f ho => exact pureCase (by simp only [execOp, ho]) (field_sound hk)
  case h_22 t x ix ho => exact pureCase (by simp only [execOp, ho]) (indexAddr_sound hk)
  case h_23 t x ix ho => exact pureCase (by simp only [execOp, ho]) (index_sound hk)
  case h_24 t x ix ok ho => simp [sclsB, ho] at hc
  case h_25 t m k x ho => simp [sclsB, ho] at hc
  case h_26 t x ho => simp [sclsB, ho] at hc
  case h_27 it s ho => simp [sclsB, ho] at hc
  case h_28 it ho => simp [sclsB, ho] at hc
  case h_29 x xt t ok ho => simp [sclsB, ho] at hc
  case h_30 t i ho => exact pureCase (by simp only [execOp, ho]) (extract_sound hk)
  case h_31 c ho =>
    split at hk
    · rename_i b hb
      have hd' := hd
      unfold dynB at hd'
      rw [ho] at hd'
      simp only [hb] at hd'
      obtain ⟨v, hv, hr⟩ := builtin_free (P := P) (cs := c.args.map fun | .const _ => true | _ => false) (args := c.args.map ρ)
        (by rw [show (c.args.map ρ).toList = c.args.toList.map ρ by simp]; exact hd') (by simpa using hk) (len_types hc ho hb)
      refine ⟨v, fun w => ?_, hv⟩
      have := hr w
      simp only [execOp, ho, resolve, hb, Sem.run_bind, Sem.run_pure, Result.andThen_ok, invoke]
      exact this
    · rename_i f hf
      simp [sclsB, ho, hf] at hc
    · exact hk.elim
  case h_32 x ho => simp [sclsB, ho] at hc
  case h_33 => exact hk.elim


/-- A heap that holds another, block for block. -/
def Pre (h h' : Heap) : Prop := ∀ b : Nat, b < h.size → h'[b]? = h[b]?
theorem Pre.refl (h : Heap) : Pre h h := fun _ _ => rfl
theorem Pre.size {h h' : Heap} (p : Pre h h') : h.size ≤ h'.size := by
  rcases Nat.lt_or_ge h'.size h.size with hl | hl
  · have h1 := p h'.size hl
    rw [Array.getElem?_eq_none (Nat.le_refl _)] at h1
    rw [Array.getElem?_eq_getElem hl] at h1
    cases h1
  · exact hl
theorem Pre.trans {a b c : Heap} (h : Pre a b) (k : Pre b c) : Pre a c := fun x hx => (k x (Nat.lt_of_lt_of_le hx h.size)).trans (h x hx)
theorem Pre.push (h : Heap) (o : Obj) : Pre h (h.push o) := fun b hb => by rw [Array.getElem?_push, if_neg (by omega)]
theorem Pre.cl {h h' : Heap} (p : Pre h h') {a : Addr} {v : Value} (hc : cl h a = some v) : cl h' a = some v := by
  have hb : a.block < h.size := by
    rcases Nat.lt_or_ge a.block h.size with hl | hl
    · exact hl
    · rw [V.cl, Array.getElem?_eq_none hl] at hc; cases hc
  rw [V.cl, p _ hb]; exact hc
theorem Pre.cls {h h' : Heap} (p : Pre h h') {a : Addr} : ∀ {vs : List Value} {i : Nat}, cls h a i vs → cls h' a i vs
  | [], _, _ => trivial
  | [_], _, hc => p.cl hc
  | _ :: _ :: _, _, hc => ⟨p.cl hc.1, Pre.cls p hc.2⟩

theorem exV_mono {k : TK} {F G : Value → Prop} (hfg : ∀ v, F v → G v) (h : exV k F) : exV k G := by
  cases k <;> simp only [exV] at h ⊢
  case slice => obtain ⟨a, n, c, h⟩ := h; exact ⟨a, n, c, hfg _ h⟩
  all_goals (obtain ⟨v, h⟩ := h; exact ⟨v, hfg _ h⟩)
theorem exVs_mono : ∀ {ks : List TK} {F G : List Value → Prop}, (∀ v, F v → G v) → exVs ks F → exVs ks G
  | [], _, _, hfg, h => hfg _ h
  | _ :: _, _, _, hfg, h => exV_mono (fun _ h => exVs_mono (fun _ h => hfg _ h) h) h

theorem ldV_fix {t : TypeId} {h : Heap} {a : Addr} {K : Value → Prop} (hk : ldV P t h a K) : ∃ v, K v ∧ ∀ h', Pre h h' → ldV P t h' a (fun u => u = v) := by
  unfold ldV at hk ⊢
  split at hk
  · rename_i k hs
    cases k <;> simp only [exV] at hk
    case slice =>
      obtain ⟨x, n, c, h1, h2⟩ := hk
      exact ⟨_, h2, fun h' p => ⟨x, n, c, p.cl h1, rfl⟩⟩
    all_goals
      obtain ⟨v, h1, h2⟩ := hk
      exact ⟨_, h2, fun h' p => ⟨v, p.cl h1, rfl⟩⟩
  · rename_i ks hs
    obtain ⟨hc, hk⟩ := chk_of hk
    have key : ∀ {ks : List TK} {F : List Value → Prop}, exVs ks F → ∃ vs, F vs ∧ ∀ G : List Value → Prop, G vs → exVs ks G := by
      intro ks
      induction ks with
      | nil => intro F h; exact ⟨[], h, fun G h => h⟩
      | cons k ks ih =>
        intro F h
        have : ∃ v, (exVs ks fun vs => F (v :: vs)) ∧ ∀ G : Value → Prop, G v → exV k G := by
          cases k <;> simp only [exVs, exV] at h
          case slice => obtain ⟨x, n, c, h⟩ := h; exact ⟨_, h, fun G g => ⟨x, n, c, g⟩⟩
          all_goals (obtain ⟨v, h⟩ := h; exact ⟨_, h, fun G g => ⟨v, g⟩⟩)
        obtain ⟨v, h1, h2⟩ := this
        obtain ⟨vs, h3, h4⟩ := ih h1
        exact ⟨v :: vs, h3, fun G g => h2 _ (h4 _ g)⟩
    obtain ⟨vs, ⟨h1, h2⟩, h3⟩ := key hk
    refine ⟨_, h2, fun h' p => ?_⟩
    show chk _ _
    rw [hc]
    exact h3 _ ⟨p.cls h1, rfl⟩

/-- A load comes to one value in every heap that holds this one. -/
theorem cls_load {o : Oper} {ρ : Operand → Value} {h : Heap} {K : Value → Heap → Prop} {QP : List PanicEntry → Heap → Prop}
    (hk : vcOp P o ρ h K QP) (hc : sclsB P o = .load) : ∃ v, (∀ w : World, Pre h w.heap → (execOp ρ o).run P w = .ok (.value v) w) ∧ K v h := by
  obtain ⟨t, x, ho⟩ : ∃ t x, o.op = .load t x := by
    unfold sclsB at hc
    split at hc <;> first
      | exact ⟨_, _, by assumption⟩
      | (exfalso; revert hc; (repeat' split) <;> intro hc <;> cases hc; done)
  simp only [vcOp, ho] at hk
  obtain ⟨hu, hk⟩ := chk_of hk
  obtain ⟨a, ha, hk⟩ := onAddr_some hk
  obtain ⟨v, hv, hr⟩ := ldV_fix hk
  refine ⟨v, fun w p => ?_, hv⟩
  obtain ⟨u, hr2, hu2⟩ := ld_same hu (hr _ p)
  rw [← show u = v from hu2]
  simp [execOp, ho, Instr.loadAt, ha, Instr.sureAddr, hr2]

/-- An operation of the quiet class leaves the world as it is. -/
theorem cls_quiet {o : Oper} {ρ : Operand → Value} {h : Heap} {K : Value → Heap → Prop} {QP : List PanicEntry → Heap → Prop}
    (hk : vcOp P o ρ h K QP) (hc : sclsB P o = .quiet) (w : World) (hw : w.heap = h) : ∃ v, (execOp ρ o).run P w = .ok (.value v) w ∧ K v h := by
  have hs : (∃ t x ix ok, o.op = .lookup t x ix ok) ∨ (∃ c t d e, o.op = .call c ∧ c.callee = .builtin .len ∧ c.argTypes.toList = [t] ∧ P.underlying t = some (.map d e)) := by
    unfold sclsB at hc
    split at hc <;> first
      | exact .inl ⟨_, _, _, _, by assumption⟩
      | skip
    all_goals (revert hc; (repeat' split) <;> intro hc <;> first | (cases hc; done) | skip)
    exact .inr ⟨_, _, _, _, by assumption, by assumption, by assumption, by assumption⟩
  rcases hs with ⟨t, x, ix, ok, ho⟩ | ⟨c, t, d, e, ho, hb, ht, hu⟩
  · simp only [vcOp, ho] at hk
    obtain ⟨v, hr, hv⟩ := hk.read w hw
    exact ⟨v, by simp [execOp, ho, hr], hv⟩
  · simp only [vcOp, ho, hb] at hk
    have hts : c.argTypes = #[t] := by apply Array.ext'; simpa using ht
    have hr : ReadT P o.type (Builtin.len_ c.argTypes o.type (c.args.toList.map ρ).toArray) h K := by
      rw [hts] at hk ⊢
      unfold builtinV at hk
      simp only [] at hk
      split at hk
      · rename_i t' a n k ht' ha
        simp only [List.cons.injEq, and_true] at ht'
        subst ht'
        obtain ⟨hs, _⟩ := chk_of hk
        simp [isSliceT, hu] at hs
      · rename_i t' s ht' ha
        simp only [List.cons.injEq, and_true] at ht'
        subst ht'
        rw [hu] at hk
        exact hk.elim
      · exact hk
    obtain ⟨v, hr, hv⟩ := hr.read w hw
    refine ⟨v, ?_, hv⟩
    have hm : c.args.map ρ = (c.args.toList.map ρ).toArray := by apply Array.ext'; simp
    simp only [execOp, ho, resolve, hb, Sem.run_bind, Sem.run_pure, Result.andThen_ok, invoke, builtin, hm, hr]

end
/-! ## Regions that draw their order: steps and their swaps -/

section
variable {P : Program} {ops : Array Oper}

/-- For an operation two states are alike. -/
def Alike (ops : Array Oper) (o : Oper) (a b : Act) : Prop :=
  execOp b.eval o = execOp a.eval o ∧ Region.wanted o (yielded ops b.tmps) = Region.wanted o (yielded ops a.tmps)
theorem Alike.symm {o : Oper} {a b : Act} (h : Alike ops o a b) : Alike ops o b a := ⟨h.1.symm, h.2.symm⟩
theorem Alike.trans {o : Oper} {a b c : Act} (h : Alike ops o a b) (k : Alike ops o b c) : Alike ops o a c := ⟨k.1.trans h.1, k.2.trans h.2⟩
theorem alike_put {o : Oper} (hs : ∀ cs b, o.op ≠ .select cs b) (a : Act) (dst : Option Tmp) (v : Value) (h : ∀ d, dst = some d → d ∉ o.looksAt ops) : Alike ops o a (a.put dst v) :=
  ⟨execOp_put o hs a dst v h, wanted_put o a dst v h⟩

def YF (P : Program) (ops : Array Oper) (o : Oper) (v : Value) (a : Act) : Prop :=
  (Region.wanted o (yielded ops a.tmps) = true ∧ ∀ w, (execOp a.eval o).run P w = .ok (.value v) w) ∨ (Region.wanted o (yielded ops a.tmps) = false ∧ v = undef)
def HR (c : Cl) (h h' : World) : Prop := match c with | .load => Pre h.heap h'.heap | _ => h' = h
def RD (P : Program) (ops : Array Oper) (c : Cl) (o : Oper) (v : Value) (a : Act) (h : World) : Prop :=
  (Region.wanted o (yielded ops a.tmps) = true ∧ ∀ w : World, HR c h w → (execOp a.eval o).run P w = .ok (.value v) w) ∨ (Region.wanted o (yielded ops a.tmps) = false ∧ v = undef)

def SE (P : Program) (ops : Array Oper) (o : Oper) (K : Act → World → Prop) (a : Act) (w : World) : Prop :=
  (Region.wanted o (yielded ops a.tmps) = true ∧ Upon P (fun v w' => K (a.put o.dst v) w') (fun _ _ => False) ((execOp a.eval o).run P w)) ∨
  (Region.wanted o (yielded ops a.tmps) = false ∧ K (a.put o.dst undef) w)

/-- A step of its class. -/
def SC (P : Program) (ops : Array Oper) (c : Cl) (o : Oper) (K : Act → World → Prop) (a : Act) (w : World) : Prop :=
  match c with
  | .free => ∃ v, YF P ops o v a ∧ K (a.put o.dst v) w
  | .load => ∃ v, RD P ops .load o v a w ∧ K (a.put o.dst v) w
  | .quiet => ∃ v, RD P ops .quiet o v a w ∧ K (a.put o.dst v) w
  | .make => SE P ops o (fun a' w' => Pre w.heap w'.heap ∧ K a' w') a w
  | .other => SE P ops o K a w

theorem HR.refl (c : Cl) (h : World) : HR c h h := by cases c <;> first | exact Pre.refl _ | rfl

theorem YF.alike {o : Oper} {v : Value} {a b : Act} (hs : Alike ops o a b) (h : YF P ops o v a) : YF P ops o v b := by
  unfold YF; rw [hs.1, hs.2]; exact h
theorem RD.alike {c : Cl} {o : Oper} {v : Value} {a b : Act} {h : World} (hs : Alike ops o a b) (hr : RD P ops c o v a h) : RD P ops c o v b h := by
  unfold RD; rw [hs.1, hs.2]; exact hr
theorem YF.det {o : Oper} {v u : Value} {a : Act} (w : World) (h : YF P ops o v a) (k : YF P ops o u a) : v = u := by
  rcases h with ⟨h1, h2⟩ | ⟨h1, h2⟩ <;> rcases k with ⟨k1, k2⟩ | ⟨k1, k2⟩
  · have := (h2 w).symm.trans (k2 w); simpa using this
  · rw [h1] at k1; cases k1
  · rw [h1] at k1; cases k1
  · rw [h2, k2]
theorem RD.grow {o : Oper} {v : Value} {a : Act} {h h' : World} (hr : RD P ops .load o v a h) (p : Pre h.heap h'.heap) : RD P ops .load o v a h' := by
  rcases hr with ⟨h1, h2⟩ | hr
  · exact .inl ⟨h1, fun w hw => h2 w (p.trans hw)⟩
  · exact .inr hr

theorem SE.mono {o : Oper} {K K' : Act → World → Prop} {a b : Act} {w : World} (hs : Alike ops o a b) (hk : ∀ u w', K (a.put o.dst u) w' → K' (b.put o.dst u) w')
    (h : SE P ops o K a w) : SE P ops o K' b w := by
  unfold SE; rw [hs.1, hs.2]
  rcases h with ⟨h1, h2⟩ | ⟨h1, h2⟩
  · exact .inl ⟨h1, h2.mono (fun v w' h => hk v w' h) (fun _ _ h => h)⟩
  · exact .inr ⟨h1, hk _ _ h2⟩

theorem SC.mono {c : Cl} {o : Oper} {K K' : Act → World → Prop} {a b : Act} {w : World} (hs : Alike ops o a b) (hk : ∀ u w', K (a.put o.dst u) w' → K' (b.put o.dst u) w')
    (h : SC P ops c o K a w) : SC P ops c o K' b w := by
  cases c
  case free => obtain ⟨v, h1, h2⟩ := h; exact ⟨v, h1.alike hs, hk _ _ h2⟩
  case load => obtain ⟨v, h1, h2⟩ := h; exact ⟨v, h1.alike hs, hk _ _ h2⟩
  case quiet => obtain ⟨v, h1, h2⟩ := h; exact ⟨v, h1.alike hs, hk _ _ h2⟩
  case make =>
    show SE P ops o (fun a' w' => Pre w.heap w'.heap ∧ K' a' w') b w
    exact SE.mono hs (fun u w' hh => ⟨hh.1, hk u w' hh.2⟩) (show SE P ops o (fun a' w' => Pre w.heap w'.heap ∧ K a' w') a w from h)
  case other => exact SE.mono hs hk h

theorem upon_some {K : Value → World → Prop} {r : Result Next} (h : Upon P K (fun _ _ => False) r) : ∃ v w, K v w := by
  have he : ∀ e w, endK K (fun _ _ => False) e w → ∃ v w, K v w := fun e w h => by
    cases e with
    | returned v => exact ⟨v, w, h⟩
    | panicked c => exact h.elim
    | outgrown => exact h.elim
  cases r with
  | ok n w =>
    cases n <;> simp only [Upon] at h <;> first
      | exact ⟨_, _, h⟩
      | (obtain ⟨e, w', _, h, _⟩ := h []; exact he e w' h)
      | (obtain ⟨e, w', h, _⟩ := h.2 default [] (room_wide _); exact he e w' h)
      | exact h.elim
  | halt x w => cases x <;> simp only [Upon] at h

theorem SE.some {o : Oper} {K : Act → World → Prop} {a : Act} {w : World} (h : SE P ops o K a w) : ∃ u w', K (a.put o.dst u) w' := by
  rcases h with ⟨h1, h2⟩ | ⟨h1, h2⟩
  · exact upon_some h2
  · exact ⟨_, _, h2⟩
theorem SC.some {c : Cl} {o : Oper} {K : Act → World → Prop} {a : Act} {w : World} (h : SC P ops c o K a w) : ∃ u w', K (a.put o.dst u) w' := by
  cases c
  case free => obtain ⟨v, h1, h2⟩ := h; exact ⟨_, _, h2⟩
  case load => obtain ⟨v, h1, h2⟩ := h; exact ⟨_, _, h2⟩
  case quiet => obtain ⟨v, h1, h2⟩ := h; exact ⟨_, _, h2⟩
  case make =>
    obtain ⟨u, w', h⟩ := SE.some (show SE P ops o (fun a' w' => Pre w.heap w'.heap ∧ K a' w') a w from h)
    exact ⟨u, w', h.2⟩
  case other => exact SE.some h

/-- What p has read is so read again. -/
def Again (P : Program) (ops : Array Oper) (c : Cl) (o : Oper) (a : Act) (w : World) : Prop :=
  ∃ v, RD P ops c o v a w ∧ ∀ d, o.dst = some d → a.tmps.getD d undef = v

theorem getD_put {a : Act} {d : Tmp} {v : Value} (h : d < a.tmps.size) : (a.put (some d) v).tmps.getD d undef = v := by
  simp [Act.put, Array.getD_eq_getD_getElem?, h]
theorem getD_put_ne {a : Act} {d : Tmp} {x : Option Tmp} {v : Value} (h : ∀ e, x = some e → e ≠ d) : (a.put x v).tmps.getD d undef = a.tmps.getD d undef := by
  cases x with
  | none => rfl
  | some e => simp [Act.put, Array.getD_eq_getD_getElem?, Array.getElem?_setIfInBounds_ne (h e rfl)]
theorem size_put (a : Act) (x : Option Tmp) (v : Value) : (a.put x v).tmps.size = a.tmps.size := by cases x <;> simp [Act.put]

theorem Again.put {c : Cl} {o : Oper} {a b : Act} {w : World} (hs : Alike ops o a b) (hd : ∀ d, o.dst = some d → b.tmps.getD d undef = a.tmps.getD d undef)
    (h : Again P ops c o a w) : Again P ops c o b w := by
  obtain ⟨v, h1, h2⟩ := h
  exact ⟨v, h1.alike hs, fun d hd' => (hd d hd').trans (h2 d hd')⟩

/-- The pairs that may turn round: p's step, then z's; or z's, then p's. -/
def swapOk : Cl → Cl → Bool
  | .free, _ => true
  | _, .free => true
  | .load, _ => true
  | .quiet, _ => true
  | _, _ => false

/-- What z must leave as p has read it. -/
def askOf : Cl → Cl → Bool
  | .load, .other => true
  | .quiet, .other => true
  | .quiet, .make => true
  | _, _ => false

def isE : Cl → Bool | .make => true | .other => true | _ => false

theorem swap {cp cz : Cl} {p z : Oper} (hsp : ∀ cs b, p.op ≠ .select cs b) (hsz : ∀ cs b, z.op ≠ .select cs b)
    (hap : p.apart ops z = true) (hself : askOf cp cz = true → ∀ d, p.dst = some d → d ∉ p.looksAt ops)
    (hok : swapOk cp cz = true) {S T T' K : Act → World → Prop} {a : Act} {w : World} (hN : ∀ d, p.dst = some d → d < a.tmps.size)
    (hS : ∀ (b : Act) (w : World) (v u : Value), S (b.put p.dst v) w → S ((b.put z.dst u).put p.dst v) w) (hS0 : isE cp = false → ∀ b w, S b w)
    (hT : ∀ (b : Act) (w : World) (v u : Value), T ((b.put p.dst v).put z.dst u) w → T' (b.put z.dst u) w) (hT0 : isE cz = false → ∀ b w, T' b w)
    (hA : askOf cp cz = true → ∀ b w, T b w → Again P ops cp p b w)
    (h : SC P ops cp p (fun a1 w1 => S a1 w1 ∧ SC P ops cz z (fun a2 w2 => T a2 w2 ∧ K a2 w2) a1 w1) a w) :
    SC P ops cz z (fun a1 w1 => T' a1 w1 ∧ SC P ops cp p (fun a2 w2 => S a2 w2 ∧ K a2 w2) a1 w1) a w := by
  obtain ⟨h1, h2, h3⟩ := Oper.apart_spec hap
  have comm : ∀ (a : Act) v u, (a.put p.dst v).put z.dst u = (a.put z.dst u).put p.dst v := fun a v u => Act.put_comm a v u h2
  have pz : ∀ (a : Act) u, Alike ops p a (a.put z.dst u) := fun a u => alike_put hsp a _ u h3
  have zp : ∀ (a : Act) v, Alike ops z a (a.put p.dst v) := fun a v => alike_put hsz a _ v h1
  have again : ∀ (v u : Value) (w' : World), askOf cp cz = true → Again P ops cp p ((a.put p.dst v).put z.dst u) w' → ∃ v', RD P ops cp p v' (a.put z.dst u) w' ∧ (a.put z.dst u).put p.dst v' = (a.put z.dst u).put p.dst v := by
    intro v u w' hask ⟨v', hr, hd⟩
    refine ⟨v', ?_, ?_⟩
    · rw [comm] at hr
      exact hr.alike (alike_put hsp _ _ _ (hself hask)).symm
    · cases hp : p.dst with
      | none => rfl
      | some d =>
        have e := hd d hp
        rw [comm, hp, getD_put (by rw [size_put]; exact hN d hp)] at e
        rw [e]
  by_cases hz : cz = .free
  · subst hz
    obtain ⟨v0, w0, hS0', u, hu, _⟩ := h.some
    have hu' : YF P ops z u a := hu.alike (zp a v0).symm
    refine ⟨u, hu', hT0 rfl _ _, SC.mono (pz a u) ?_ h⟩
    rintro x w' ⟨hs, u', hu2, _, hk⟩
    have : u' = u := (hu2.alike (zp a x).symm).det w hu'
    subst this
    rw [comm] at hk
    exact ⟨hS _ _ _ _ hs, hk⟩
  · cases cp
    case free =>
      obtain ⟨v, hv, _, hz2⟩ := h
      refine SC.mono (zp a v).symm ?_ hz2
      rintro u w' ⟨ht, hk⟩
      exact ⟨hT _ _ _ _ ht, v, hv.alike (pz a u), hS0 rfl _ _, by rw [← comm]; exact hk⟩
    case load =>
      obtain ⟨v, hv, _, hz2⟩ := h
      cases cz
      case free => exact absurd rfl hz
      case load => obtain ⟨u, hu, _, hk⟩ := hz2; exact ⟨u, hu.alike (zp a v).symm, hT0 rfl _ _, v, hv.alike (pz a u), hS0 rfl _ _, by rw [← comm]; exact hk⟩
      case quiet => obtain ⟨u, hu, _, hk⟩ := hz2; exact ⟨u, hu.alike (zp a v).symm, hT0 rfl _ _, v, hv.alike (pz a u), hS0 rfl _ _, by rw [← comm]; exact hk⟩
      case make =>
        show SE P ops z (fun a1 w1 => Pre w.heap w1.heap ∧ T' a1 w1 ∧ SC P ops .load p (fun a2 w2 => S a2 w2 ∧ K a2 w2) a1 w1) a w
        refine SE.mono (zp a v).symm ?_ (show SE P ops z (fun a' w' => Pre w.heap w'.heap ∧ T a' w' ∧ K a' w') (a.put p.dst v) w from hz2)
        rintro u w' ⟨hp, ht, hk⟩
        exact ⟨hp, hT _ _ _ _ ht, v, (hv.grow hp).alike (pz a u), hS0 rfl _ _, by rw [← comm]; exact hk⟩
      case other =>
        refine SC.mono (c := .other) (zp a v).symm ?_ hz2
        rintro u w' ⟨ht, hk⟩
        obtain ⟨v', hr, e⟩ := again v u w' rfl (hA rfl _ _ ht)
        exact ⟨hT _ _ _ _ ht, v', hr, hS0 rfl _ _, by rw [e, ← comm]; exact hk⟩
    case quiet =>
      obtain ⟨v, hv, _, hz2⟩ := h
      cases cz
      case free => exact absurd rfl hz
      case load => obtain ⟨u, hu, _, hk⟩ := hz2; exact ⟨u, hu.alike (zp a v).symm, hT0 rfl _ _, v, hv.alike (pz a u), hS0 rfl _ _, by rw [← comm]; exact hk⟩
      case quiet => obtain ⟨u, hu, _, hk⟩ := hz2; exact ⟨u, hu.alike (zp a v).symm, hT0 rfl _ _, v, hv.alike (pz a u), hS0 rfl _ _, by rw [← comm]; exact hk⟩
      case make =>
        show SE P ops z (fun a1 w1 => Pre w.heap w1.heap ∧ T' a1 w1 ∧ SC P ops .quiet p (fun a2 w2 => S a2 w2 ∧ K a2 w2) a1 w1) a w
        refine SE.mono (zp a v).symm ?_ (show SE P ops z (fun a' w' => Pre w.heap w'.heap ∧ T a' w' ∧ K a' w') (a.put p.dst v) w from hz2)
        rintro u w' ⟨hp, ht, hk⟩
        obtain ⟨v', hr, e⟩ := again v u w' rfl (hA rfl _ _ ht)
        exact ⟨hp, hT _ _ _ _ ht, v', hr, hS0 rfl _ _, by rw [e, ← comm]; exact hk⟩
      case other =>
        refine SC.mono (c := .other) (zp a v).symm ?_ hz2
        rintro u w' ⟨ht, hk⟩
        obtain ⟨v', hr, e⟩ := again v u w' rfl (hA rfl _ _ ht)
        exact ⟨hT _ _ _ _ ht, v', hr, hS0 rfl _ _, by rw [e, ← comm]; exact hk⟩
    case make => cases cz <;> simp_all [swapOk]
    case other => cases cz <;> simp_all [swapOk]

end
/-! ## Regions that draw their order: the chain -/

section
variable {P : Program} {all : List Oper} {bs : List (List Nat)}

def Stb (P : Program) (all : List Oper) (ys : List Nat) (a : Act) (w : World) : Prop := ∀ y ∈ ys, ∀ o, all[y]? = some o → Again P all.toArray (sclsB P o) o a w

def Ch (P : Program) (all : List Oper) (bs : List (List Nat)) (K : Act → World → Prop) : List Nat → List Nat → Act → World → Prop
  | [], _, a, w => K a w
  | i :: rest, D, a, w => ∃ o, all[i]? = some o ∧ SC P all.toArray (sclsB P o) o (fun a' w' => Stb P all (D.filter (needs P all bs i)) a' w' ∧ Ch P all bs K rest (i :: D) a' w') a w

theorem upsets_ask (oi oy : Oper) : upsets P oi oy = askOf (sclsB P oy) (sclsB P oi) := by
  unfold upsets; cases sclsB P oy <;> cases sclsB P oi <;> rfl

def isRd : Cl → Bool | .load => true | .quiet => true | _ => false

/-- x leaves alone what y looks at, and what it has read. -/
def Rok (P : Program) (all : List Oper) (y x : Nat) : Prop :=
  ∀ oy ox, all[y]? = some oy → all[x]? = some ox → isRd (sclsB P oy) = true → ∀ d, ox.dst = some d → d ∉ oy.looksAt all.toArray ∧ oy.dst ≠ some d
/-- p, then z: these may turn round. -/
def Pok (P : Program) (all : List Oper) (bs : List (List Nat)) (p z : Nat) : Prop :=
  ∀ op oz, all[p]? = some op → all[z]? = some oz → op.apart all.toArray oz = true ∧ swapOk (sclsB P op) (sclsB P oz) = true ∧ inBef bs p z = false
/-- An operation taken by itself. -/
def Aok (P : Program) (all : List Oper) (N : Nat) (o : Oper) : Prop :=
  (∀ c, o.op ≠ .defer c) ∧ (∀ cs b, o.op ≠ .select cs b) ∧ (∀ d, o.dst = some d → d < N) ∧ (isRd (sclsB P o) = true → ∀ d, o.dst = some d → d ∉ o.looksAt all.toArray)

theorem Ch.drop {K : Act → World → Prop} : ∀ {C D D' : List Nat} {a : Act} {w : World}, (∀ x ∈ D, x ∈ D') → Ch P all bs K C D' a w → Ch P all bs K C D a w
  | [], _, _, _, _, _, h => h
  | i :: rest, D, D', a, w, hs, h => by
    obtain ⟨o, ho, h⟩ := h
    refine ⟨o, ho, SC.mono ⟨rfl, rfl⟩ ?_ h⟩
    rintro u w' ⟨h1, h2⟩
    refine ⟨fun y hy => h1 y ?_, Ch.drop (fun x hx => ?_) h2⟩
    · rw [List.mem_filter] at hy ⊢
      exact ⟨hs y hy.1, hy.2⟩
    · rcases List.mem_cons.1 hx with rfl | hx
      · exact List.mem_cons_self
      · exact List.mem_cons_of_mem _ (hs x hx)

theorem needs_spec {i y : Nat} {oi : Oper} (hi : all[i]? = some oi) (h : needs P all bs i y = true) : ∃ oy, all[y]? = some oy ∧ askOf (sclsB P oy) (sclsB P oi) = true := by
  unfold needs at h
  rw [hi] at h
  cases hy : all[y]? with
  | none => rw [hy] at h; cases h
  | some oy =>
    rw [hy] at h
    simp only [Bool.and_eq_true, upsets_ask] at h
    exact ⟨oy, rfl, h.1⟩

theorem ask_rd {a b : Cl} (h : askOf a b = true) : isRd a = true := by cases a <;> cases b <;> simp_all [askOf, isRd]
theorem ask_e {a b : Cl} (h : askOf a b = true) : isE b = true := by cases a <;> cases b <;> simp_all [askOf, isE]

theorem stb_none {i : Nat} {oi : Oper} {D : List Nat} (hi : all[i]? = some oi) (he : isE (sclsB P oi) = false) (a : Act) (w : World) : Stb P all (D.filter (needs P all bs i)) a w := by
  intro y hy
  rw [List.mem_filter] at hy
  obtain ⟨oy, _, h⟩ := needs_spec hi hy.2
  rw [ask_e h] at he; cases he

/-- What was read stands when a temporary is put that nothing there looks at. -/
theorem Stb.put {ys : List Nat} {a b : Act} {w : World} (h : Stb P all ys a w)
    (hab : ∀ y ∈ ys, ∀ oy, all[y]? = some oy → Alike all.toArray oy a b ∧ ∀ d, oy.dst = some d → b.tmps.getD d undef = a.tmps.getD d undef) : Stb P all ys b w :=
  fun y hy oy hoy => (h y hy oy hoy).put (hab y hy oy hoy).1 (hab y hy oy hoy).2

theorem take {N : Nat} {z : Nat} {oz : Oper} (hz : all[z]? = some oz) (hA : ∀ o ∈ all, Aok P all N o) {K : Act → World → Prop} {post : List Nat} :
    ∀ (pre D : List Nat) (a : Act) (w : World), a.tmps.size = N → (D.reverse ++ (pre ++ z :: post)).Pairwise (Rok P all) → (∀ p ∈ pre, Pok P all bs p z) →
      Ch P all bs K (pre ++ z :: post) D a w →
      SC P all.toArray (sclsB P oz) oz (fun a1 w1 => Stb P all (D.filter (needs P all bs z)) a1 w1 ∧ Ch P all bs K (pre ++ post) D a1 w1) a w := by
  intro pre
  induction pre with
  | nil =>
    intro D a w _ _ _ h
    obtain ⟨o, ho, h⟩ := h
    rw [hz] at ho; cases ho
    refine SC.mono ⟨rfl, rfl⟩ ?_ h
    rintro u w' ⟨h1, h2⟩
    exact ⟨h1, Ch.drop (fun x hx => List.mem_cons_of_mem _ hx) h2⟩
  | cons p pre ih =>
    intro D a w hN hR hP h
    obtain ⟨op, hp, h⟩ := h
    obtain ⟨hap, hsw, hbf⟩ := hP p List.mem_cons_self op oz hp hz
    have hAp := hA op (List.mem_of_getElem? hp)
    have hAz := hA oz (List.mem_of_getElem? hz)
    have hR' : ((p :: D).reverse ++ (pre ++ z :: post)).Pairwise (Rok P all) := by simpa using hR
    have hR0 := List.pairwise_append.1 hR
    have hDp : ∀ y ∈ D, Rok P all y p := fun y hy => hR0.2.2 y (by simpa using hy) p (by simp)
    have hDz : ∀ y ∈ D, Rok P all y z := fun y hy => hR0.2.2 y (by simpa using hy) z (by simp)
    have h' : SC P all.toArray (sclsB P op) op (fun a1 w1 => Stb P all (D.filter (needs P all bs p)) a1 w1 ∧
        SC P all.toArray (sclsB P oz) oz (fun a2 w2 => Stb P all ((p :: D).filter (needs P all bs z)) a2 w2 ∧ Ch P all bs K (pre ++ post) (p :: D) a2 w2) a1 w1) a w := by
      refine SC.mono ⟨rfl, rfl⟩ ?_ h
      rintro u w' ⟨h1, h2⟩
      exact ⟨h1, ih (p :: D) _ _ (by rw [size_put]; exact hN) hR' (fun q hq => hP q (List.mem_cons_of_mem _ hq)) h2⟩
    obtain ⟨_, hcm, _⟩ := Oper.apart_spec hap
    -- a reader stands alike before and after a put of p or of z
    have rd : ∀ y ∈ D, ∀ oy, all[y]? = some oy → isRd (sclsB P oy) = true → ∀ (x : Nat) (ox : Oper), all[x]? = some ox → Rok P all y x → ∀ (b : Act) (v : Value),
        Alike all.toArray oy b (b.put ox.dst v) ∧ ∀ d, oy.dst = some d → (b.put ox.dst v).tmps.getD d undef = b.tmps.getD d undef := by
      intro y hy oy hoy hrd x ox hox hr b v
      have hAy := hA oy (List.mem_of_getElem? hoy)
      refine ⟨alike_put hAy.2.1 b _ v fun d hd => (hr oy ox hoy hox hrd d hd).1, fun d hd => getD_put_ne fun e he hde => ?_⟩
      subst hde
      exact (hr oy ox hoy hox hrd e he).2 hd
    have isrd : ∀ {i y : Nat} {oi oy : Oper}, all[i]? = some oi → all[y]? = some oy → needs P all bs i y = true → isRd (sclsB P oy) = true := by
      intro i y oi oy hi hy hn
      obtain ⟨oy', hoy', h⟩ := needs_spec hi hn
      rw [hy] at hoy'; cases hoy'
      exact ask_rd h
    have fin := swap (T' := Stb P all (D.filter (needs P all bs z))) hAp.2.1 hAz.2.1 hap (fun hask => hAp.2.2.2 (ask_rd hask)) hsw (fun d hd => by rw [hN]; exact hAp.2.2.1 d hd)
      (fun b w v u hs => ?_) (fun he b w => stb_none hp he b w) (fun b w v u ht => ?_) (fun he b w => stb_none hz he b w) (fun hask b w ht => ?_) h'
    · refine SC.mono ⟨rfl, rfl⟩ ?_ fin
      rintro u w' ⟨h1, h2⟩
      exact ⟨h1, op, hp, h2⟩
    · refine hs.put fun y hy oy hoy => ?_
      rw [List.mem_filter] at hy
      have hrd := isrd hp hoy hy.2
      have e1 := rd y hy.1 oy hoy hrd p op hp (hDp y hy.1) b v
      have e2 := rd y hy.1 oy hoy hrd z oz hz (hDz y hy.1) b u
      have e3 := rd y hy.1 oy hoy hrd p op hp (hDp y hy.1) (b.put oz.dst u) v
      exact ⟨e1.1.symm.trans (e2.1.trans e3.1), fun d hd => (e3.2 d hd).trans ((e2.2 d hd).trans (e1.2 d hd).symm)⟩
    · have ht' : Stb P all (D.filter (needs P all bs z)) ((b.put op.dst v).put oz.dst u) w := fun y hy => ht y (by
        rw [List.mem_filter] at hy ⊢
        exact ⟨List.mem_cons_of_mem _ hy.1, hy.2⟩)
      refine ht'.put fun y hy oy hoy => ?_
      rw [List.mem_filter] at hy
      have hrd := isrd hz hoy hy.2
      have e1 := rd y hy.1 oy hoy hrd p op hp (hDp y hy.1) (b.put oz.dst u) v
      rw [Act.put_comm b v u hcm]
      exact ⟨e1.1.symm, fun d hd => (e1.2 d hd).symm⟩
    · refine ht p ?_ op hp
      rw [List.mem_filter]
      refine ⟨List.mem_cons_self, ?_⟩
      simp only [needs, hp, hz, upsets_ask, hask, hbf]
      rfl

/-- A step, told to the calculus. -/
theorem wpOp_of_SC {r : Option Nat} {N : Nat} {c : Cl} {i : Nat} {o : Oper} {K : Act → World → Prop} {Q : Exit → Act → World → Prop} {a : Act} {w : World}
    (ho : all[i]? = some o) (hA : Aok P all N o) (h : SC P all.toArray c o K a w) : wpOpIn (Fn r) 0 P all.toArray Q i K a w := by
  have hE : SE P all.toArray o K a w := by
    cases c
    case free =>
      obtain ⟨v, hv, hk⟩ := h
      rcases hv with ⟨h1, h2⟩ | ⟨h1, rfl⟩
      · exact .inl ⟨h1, by rw [h2 w]; exact hk⟩
      · exact .inr ⟨h1, hk⟩
    case load =>
      obtain ⟨v, hv, hk⟩ := h
      rcases hv with ⟨h1, h2⟩ | ⟨h1, rfl⟩
      · exact .inl ⟨h1, by rw [h2 w (HR.refl _ _)]; exact hk⟩
      · exact .inr ⟨h1, hk⟩
    case quiet =>
      obtain ⟨v, hv, hk⟩ := h
      rcases hv with ⟨h1, h2⟩ | ⟨h1, rfl⟩
      · exact .inl ⟨h1, by rw [h2 w (HR.refl _ _)]; exact hk⟩
      · exact .inr ⟨h1, hk⟩
    case make => exact SE.mono ⟨rfl, rfl⟩ (fun u w' hh => hh.2) (show SE P all.toArray o (fun a' w' => Pre w.heap w'.heap ∧ K a' w') a w from h)
    case other => exact h
  unfold wpOpIn
  have ho' : all.toArray[i]? = some o := by simpa using ho
  rw [ho']
  simp only []
  rcases hE with ⟨h1, h2⟩ | ⟨h1, h2⟩
  · rw [if_pos h1]
    exact wpIn_of_upon hA.1 (h2.mono (fun _ _ h => h) (fun _ _ h => h.elim))
  · rw [if_neg (by rw [h1]; simp)]
    exact ⟨fun _ _ => trivial, h2⟩

theorem runs {r : Option Nat} {N : Nat} (hA : ∀ o ∈ all, Aok P all N o) {Q : Exit → Act → World → Prop} :
    ∀ (π C : List Nat) (a : Act) (w : World), a.tmps.size = N → C.Perm π → π.Nodup → (∀ x ∈ π, x < all.length) → C.Pairwise (Rok P all) →
      (∀ p z, [p, z].Sublist C → [z, p].Sublist π → Pok P all bs p z) →
      Ch P all bs (fun a w => a.tmps.size = N → Q .normal a w) C [] a w → wpOpsIn (Fn r) 0 P all.toArray Q π a w := by
  intro π
  induction π with
  | nil =>
    intro C a w hN hperm _ _ _ _ h
    have : C = [] := List.perm_nil.1 hperm
    subst this
    exact h hN
  | cons z π ih =>
    intro C a w hN hperm hnd hlt hR hO h
    have hzC : z ∈ C := hperm.symm.subset List.mem_cons_self
    obtain ⟨pre, post, rfl⟩ := List.append_of_mem hzC
    have hz : all[z]? = some all[z]! := by
      have := hlt z List.mem_cons_self
      rw [getElem!_pos all z this]; exact List.getElem?_eq_getElem this
    have hperm' : (pre ++ post).Perm π := by
      have h1 : (z :: (pre ++ post)).Perm (z :: π) := List.perm_middle.symm.trans hperm
      exact (List.perm_cons z).1 h1
    have hsub : (pre ++ post).Sublist (pre ++ z :: post) := List.Sublist.append (List.Sublist.refl _) (List.sublist_cons_self _ _)
    rw [wpOpsIn_cons]
    have ht := take hz hA pre [] a w hN (by simpa using hR) (fun p hp => by
      refine hO p z ?_ ?_
      · exact List.Sublist.append (l₁ := [p]) (l₂ := pre) (r₁ := [z]) (List.singleton_sublist.2 hp) (by simp)
      · have hpπ : p ∈ π := hperm'.subset (List.mem_append.2 (.inl hp))
        exact List.Sublist.cons_cons z (List.singleton_sublist.2 hpπ)) h
    refine wpOp_of_SC (N := N) (c := sclsB P all[z]!) hz (hA _ (List.mem_of_getElem? hz)) (SC.mono ⟨rfl, rfl⟩ ?_ ht)
    rintro u w' ⟨_, h2⟩
    have hsz : (a.put all[z]!.dst u).tmps.size = N := by rw [size_put]; exact hN
    exact ih (pre ++ post) _ _ hsz hperm' (List.nodup_cons.1 hnd).2 (fun x hx => hlt x (List.mem_cons_of_mem _ hx)) (hR.sublist hsub)
      (fun p q h1 h2 => hO p q (h1.trans hsub) (h2.trans (List.sublist_cons_self _ _))) h2

end
/-! ## Regions that draw their order: from the formula to the chain -/

section
variable {P : Program} {all : List Oper} {bs : List (List Nat)} {N : Nat} {m : Bool}

theorem al_pre {h : Heap} {o : Obj} {K : Nat → Heap → Prop} (hk : Al h o K) : Al h o fun b h' => Pre h h' ∧ K b h' :=
  fun b h' hb hh => ⟨hh ▸ Pre.push h o, hk b h' hb hh⟩

theorem onInt_mono {v : Value} {F G : Int → Prop} (hfg : ∀ n, F n → G n) (h : onInt v F) : onInt v G := by
  obtain ⟨k, n, rfl, h⟩ := onInt_some h; exact hfg _ h

theorem make_pre {o : Oper} {ρ : Operand → Value} {h : Heap} {K : Value → Heap → Prop} {QP : List PanicEntry → Heap → Prop}
    (hk : vcOp P o ρ h K QP) (hc : sclsB P o = .make) : vcOp P o ρ h (fun v h' => Pre h h' ∧ K v h') QP := by
  have hs : (∃ t, o.op = .alloc t) ∨ (∃ t x, o.op = .box t x) ∨ (∃ t n ps, o.op = .buildSlice t n ps) ∨ (∃ t l c, o.op = .makeSlice t l c) ∨ (∃ t r, o.op = .makeMap t r) := by
    unfold sclsB at hc
    split at hc <;> first
      | exact .inl ⟨_, by assumption⟩
      | exact .inr (.inl ⟨_, _, by assumption⟩)
      | exact .inr (.inr (.inl ⟨_, _, _, by assumption⟩))
      | exact .inr (.inr (.inr (.inl ⟨_, _, _, by assumption⟩)))
      | exact .inr (.inr (.inr (.inr ⟨_, _, by assumption⟩)))
      | (exfalso; revert hc; (repeat' split) <;> intro hc <;> cases hc; done)
  rcases hs with ⟨t, ho⟩ | ⟨t, x, ho⟩ | ⟨t, n, ps, ho⟩ | ⟨t, l, c, ho⟩ | ⟨t, r, ho⟩
  · simp only [vcOp, ho, allocV] at hk ⊢
    split at hk
    · exact al_pre hk
    · exact hk.elim
  · simp only [vcOp, ho] at hk ⊢
    exact al_pre hk
  · simp only [vcOp, ho, buildSliceV] at hk ⊢
    split at hk
    · split at hk
      · split at hk
        · obtain ⟨hb, hk⟩ := chk_of hk
          rw [hb]
          exact al_pre hk
        · exact hk.elim
      · exact hk.elim
    · exact hk.elim
  · simp only [vcOp, ho, makeSliceV] at hk ⊢
    split at hk
    · split at hk
      · exact onInt_mono (fun _ hh => onInt_mono (fun _ ⟨a, b, c, d⟩ => ⟨a, b, c, al_pre d⟩) hh) hk
      · exact hk.elim
    · exact hk.elim
  · cases r with
    | none =>
      simp only [vcOp, ho] at hk ⊢
      exact al_pre hk
    | some x =>
      simp only [vcOp, ho] at hk ⊢
      obtain ⟨hb, hk⟩ := chk_of hk
      rw [hb]
      exact onInt_mono (fun _ d => al_pre d) hk

theorem stab_of : ∀ {ys : List Nat} {fr : Fr} {h : Heap} {X : Prop}, stabV P all ys fr h X → (∀ y ∈ ys, stabOne P all y fr h) ∧ X
  | [], _, _, _, h => ⟨fun _ h => by (cases h), h⟩
  | y :: ys, _, _, _, h => ⟨fun z hz => by
      rcases List.mem_cons.1 hz with rfl | hz
      · exact h.1
      · exact (stab_of h.2).1 z hz, (stab_of h.2).2⟩

theorem again_of {y : Nat} {o : Oper} (hy : all[y]? = some o) (hrd : isRd (sclsB P o) = true) {fr : Fr} {a : Act} {w : World} (hA : Agree N fr a)
    (h : stabOne P all y fr w.heap) : Again P all.toArray (sclsB P o) o a w := by
  simp only [stabOne, hy] at h
  obtain ⟨fr1, hA1, hgt, hor⟩ := gOp_step h hA
  rcases hor with ⟨hw, _, hk⟩ | ⟨hw, hk⟩
  · have fin : ∀ v, (match o.dst with | some d => gt (putF fr1 o.dst v) d = gt fr d | none => True) → ∀ d, o.dst = some d → a.tmps.getD d undef = v := by
      intro v hv d hd
      rw [hd] at hv
      simp only [putF, gt_cons] at hv
      rw [hA.2 d, ← hv]; simp
    cases hc : sclsB P o <;> rw [hc] at hrd
    case load =>
      obtain ⟨v, hr, hv⟩ := cls_load hk hc
      exact ⟨v, .inl ⟨hw, fun w' p => by rw [hA1.eval]; exact hr w' p⟩, fin v hv⟩
    case quiet =>
      obtain ⟨v, hr, hv⟩ := cls_quiet hk hc w rfl
      exact ⟨v, .inl ⟨hw, fun w' p => by cases (show w' = w from p); rw [hA1.eval]; exact hr⟩, fin v hv⟩
    all_goals cases hrd
  · refine ⟨undef, .inr ⟨hw, rfl⟩, fun d hd => ?_⟩
    rw [hd] at hk
    simp only [putF, gt_cons] at hk
    rw [hA.2 d, ← hk]; simp

theorem ch_of (hP : POK P) (hok : all.all (opOk N) = true) {Q : Exit → Fr → Heap → Prop} {fr0 : Fr} {a0 : Act} {w0 : World} :
    ∀ (ord D : List Nat) (fr : Fr) (a : Act) (w : World), Agree N fr a → a.defers = a0.defers → Same w0 w → Ext (opDs all) fr0 fr →
      vcOrd P all bs ord D fr w.heap (Q .normal) → Ch P all bs (fun a w => post N m (opDs all) Q fr0 a0 w0 .normal a w) ord D a w := by
  intro ord
  induction ord with
  | nil =>
    intro D fr a w hA hd hs hx hk
    exact ⟨hd ▸ Marks.refl _ _ _ _, hs, fr, hA, hx, hk⟩
  | cons i rest ih =>
    intro D fr a w hA hd hs hx hk
    simp only [vcOrd] at hk
    cases ho : all[i]? with
    | none => rw [ho] at hk; exact hk.elim
    | some o =>
      rw [ho] at hk
      simp only [] at hk
      refine ⟨o, ho, ?_⟩
      have hmem : o ∈ all := List.mem_of_getElem? ho
      have hoo : opOk N o = true := List.all_eq_true.1 hok o hmem
      have hdd : ∀ d, o.dst = some d → d ∈ opDs all := fun d hd' => List.mem_filterMap.2 ⟨o, hmem, hd'⟩
      obtain ⟨fr1, hA1, hgt, hor⟩ := gOp_step hk hA
      have hx1 : Ext (opDs all) fr0 fr1 := ext_same hx hgt
      have fin : ∀ (v : Value) (w' : World), Same w w' →
          stabV P all (D.filter (needs P all bs i)) (putF fr1 o.dst v) w'.heap (vcOrd P all bs rest (i :: D) (putF fr1 o.dst v) w'.heap (Q .normal)) →
          Stb P all (D.filter (needs P all bs i)) (a.put o.dst v) w' ∧ Ch P all bs (fun a w => post N m (opDs all) Q fr0 a0 w0 .normal a w) rest (i :: D) (a.put o.dst v) w' := by
        intro v w' hs' hv
        obtain ⟨h1, h2⟩ := stab_of hv
        have hA2 := hA1.put (opOk_dst hoo) v
        refine ⟨fun y hy oy hoy => ?_, ih _ _ _ _ hA2 (by cases hdst : o.dst <;> simpa [Act.put] using hd) (hs.trans hs') (hx1.put hdd v) h2⟩
        have hn := (List.mem_filter.1 hy).2
        obtain ⟨oy', hoy', hask⟩ := needs_spec ho hn
        rw [hoy] at hoy'; cases hoy'
        exact again_of hoy (ask_rd hask) hA2 (h1 y hy)
      rcases hor with ⟨hw, hg, hk⟩ | ⟨hw, hk⟩
      · have upon : ∀ K : Value → Heap → Prop, vcOp P o (ev fr1) w.heap K (fun _ _ => False) → Upon P (fun v w' => Same w w' ∧ K v w'.heap) (fun _ _ => False) ((execOp a.eval o).run P w) := by
          intro K hk
          have := vcOp_sound hP hk w rfl
          rw [← hA1.eval] at this
          exact this.mono (fun _ _ h => h) (fun _ _ h => h.2)
        cases hc : sclsB P o
        case free =>
          simp only [dynOk, hc] at hg
          obtain ⟨v, hr, hv⟩ := cls_free hk hc hg
          exact ⟨v, .inl ⟨hw, fun w' => by rw [hA1.eval]; exact hr w'⟩, fin v w (Same.refl w) hv⟩
        case load =>
          obtain ⟨v, hr, hv⟩ := cls_load hk hc
          exact ⟨v, .inl ⟨hw, fun w' p => by rw [hA1.eval]; exact hr w' p⟩, fin v w (Same.refl w) hv⟩
        case quiet =>
          obtain ⟨v, hr, hv⟩ := cls_quiet hk hc w rfl
          exact ⟨v, .inl ⟨hw, fun w' p => by cases (show w' = w from p); rw [hA1.eval]; exact hr⟩, fin v w (Same.refl w) hv⟩
        case make =>
          exact .inl ⟨hw, (upon _ (make_pre hk hc)).mono (fun v w' h => ⟨h.2.1, fin v w' h.1 h.2.2⟩) (fun _ _ h => h)⟩
        case other =>
          exact .inl ⟨hw, (upon _ hk).mono (fun v w' h => fin v w' h.1 h.2) (fun _ _ h => h)⟩
      · have f := fin undef w (Same.refl w) hk
        cases hc : sclsB P o
        case free => exact ⟨undef, .inr ⟨hw, rfl⟩, f⟩
        case load => exact ⟨undef, .inr ⟨hw, rfl⟩, f⟩
        case quiet => exact ⟨undef, .inr ⟨hw, rfl⟩, f⟩
        case make => exact .inr ⟨hw, Pre.refl _, f⟩
        case other => exact .inr ⟨hw, f⟩

end
/-! ## Regions that draw their order: the orders there are -/

section
variable {P : Program} {all : List Oper} {bs : List (List Nat)} {N : Nat} {m : Bool}

theorem memN_iff {x : Nat} {l : List Nat} : memN x l = true ↔ x ∈ l := by
  induction l with
  | nil => simp [memN]
  | cons y ys ih =>
    simp only [memN]
    cases h : Nat.beq x y with
    | true => simp [Nat.eq_of_beq_eq_true h]
    | false => simp [Nat.ne_of_beq_eq_false h, ih]
theorem mem_uni {x : Nat} : ∀ {l acc : List Nat}, x ∈ uni acc l → x ∈ acc ∨ x ∈ l
  | [], _, h => .inl h
  | y :: ys, acc, h => by
    simp only [uni] at h
    rcases mem_uni h with h | h
    · split at h
      · exact .inl h
      · rcases List.mem_cons.1 h with rfl | h
        · exact .inr List.mem_cons_self
        · exact .inl h
    · exact .inr (List.mem_cons_of_mem _ h)

theorem mem_befOf {acc : List (List Nat)} {y : Nat} : ∀ {es : List Edge} {l : List Nat}, y ∈ befOf acc es l → y ∈ l ∨ ∃ e ∈ es, Region.binds .any e = true ∧ (y = e.on ∨ y ∈ (acc[e.on]?).getD [])
  | [], _, h => .inl h
  | e :: es, l, h => by
    simp only [befOf] at h
    rcases mem_befOf h with h | ⟨e', he', h⟩
    · split at h
      · rename_i hb
        rcases mem_uni h with h | h
        · exact .inl h
        · rcases List.mem_cons.1 h with h | h
          · exact .inr ⟨e, List.mem_cons_self, hb, .inl h⟩
          · exact .inr ⟨e, List.mem_cons_self, hb, .inr h⟩
      · exact .inl h
    · exact .inr ⟨e', List.mem_cons_of_mem _ he', h⟩

theorem befL_spec : ∀ (os : List Oper) (acc : List (List Nat)), (∀ j, os[j]? = all[acc.length + j]?) →
    (∀ z y : Nat, y ∈ (acc[z]?).getD [] → ∃ o : Oper, all[z]? = some o ∧ ∃ e ∈ o.after.toList, Region.binds .any e = true ∧ (y = e.on ∨ y ∈ (acc[e.on]?).getD [])) →
    ∀ z y : Nat, y ∈ ((befL os acc)[z]?).getD [] → ∃ o : Oper, all[z]? = some o ∧ ∃ e ∈ o.after.toList, Region.binds .any e = true ∧ (y = e.on ∨ y ∈ ((befL os acc)[e.on]?).getD [])
  | [], acc, _, h => h
  | o :: os, acc, hos, h => by
    have mono : ∀ (x : List Nat) (k y : Nat), y ∈ (acc[k]?).getD [] → y ∈ ((acc ++ [x])[k]?).getD [] := by
      intro x k y hy
      rcases Nat.lt_or_ge k acc.length with hl | hl
      · rw [List.getElem?_append_left hl]; exact hy
      · rw [List.getElem?_eq_none hl] at hy; simp at hy
    refine befL_spec os (acc ++ [befOf acc o.after.toList []]) (fun j => ?_) (fun z y hy => ?_)
    · have := hos (j + 1)
      simp only [List.getElem?_cons_succ] at this
      rw [this]; simp; congr 1; omega
    · rcases Nat.lt_or_ge z acc.length with hl | hl
      · rw [List.getElem?_append_left hl] at hy
        obtain ⟨o', ho', e, he, hb, hor⟩ := h z y hy
        exact ⟨o', ho', e, he, hb, hor.imp id (mono _ _ _)⟩
      · rw [List.getElem?_append_right hl] at hy
        have hz : z = acc.length := by
          rcases Nat.lt_or_ge acc.length z with h2 | h2
          · rw [List.getElem?_eq_none (by simp; omega)] at hy; simp at hy
          · omega
        subst hz
        simp only [Nat.sub_self, List.getElem?_cons_zero, Option.getD_some] at hy
        have h0 := hos 0
        simp only [List.getElem?_cons_zero, Nat.add_zero] at h0
        rcases mem_befOf hy with hy | ⟨e, he, hb, hor⟩
        · cases hy
        · exact ⟨o, h0.symm, e, he, hb, hor.imp id (mono _ _ _)⟩

theorem inBef_edge {y z : Nat} (h : inBef (befL all []) y z = true) : ∃ o : Oper, all[z]? = some o ∧ ∃ e ∈ o.after.toList, Region.binds .any e = true ∧ (y = e.on ∨ inBef (befL all []) y e.on = true) := by
  have h' : y ∈ ((befL all [])[z]?).getD [] := memN_iff.1 h
  obtain ⟨o, ho, e, he, hb, hor⟩ := befL_spec (all := all) all [] (fun j => by simp) (fun z y hy => by simp at hy) z y h'
  exact ⟨o, ho, e, he, hb, hor.imp id (fun h => memN_iff.2 h)⟩

/-- A list of operations that keeps the edges, after those of S. -/
def Val (all : List Oper) : List Nat → List Nat → Prop
  | _, [] => True
  | S, z :: π => z ∉ S ∧ z < all.length ∧ (∀ o, all[z]? = some o → ∀ e ∈ o.after, Region.binds .any e = true → e.on ∈ S) ∧ Val all (z :: S) π

theorem Val.mem : ∀ {π S : List Nat}, Val all S π → ∀ x ∈ π, x ∉ S ∧ x < all.length
  | [], _, _, _, h => by cases h
  | z :: π, S, h, x, hx => by
    rcases List.mem_cons.1 hx with rfl | hx
    · exact ⟨h.1, h.2.1⟩
    · have := Val.mem h.2.2.2 x hx
      exact ⟨fun hs => this.1 (List.mem_cons_of_mem _ hs), this.2⟩
theorem Val.nodup : ∀ {π S : List Nat}, Val all S π → π.Nodup
  | [], _, _ => List.nodup_nil
  | z :: π, S, h => List.nodup_cons.2 ⟨fun hm => (Val.mem h.2.2.2 z hm).1 List.mem_cons_self, Val.nodup h.2.2.2⟩

theorem Val.bef : ∀ {π S : List Nat}, (∀ x ∈ S, ∀ y, inBef (befL all []) y x = true → y ∈ S) → Val all S π → π.Pairwise fun z y => inBef (befL all []) y z = false
  | [], _, _, _ => List.Pairwise.nil
  | z :: π, S, hS, h => by
    have hz : ∀ y, inBef (befL all []) y z = true → y ∈ S := by
      intro y hy
      obtain ⟨o, ho, e, he, hb, hor⟩ := inBef_edge hy
      have := h.2.2.1 o ho e (by simpa using he) hb
      rcases hor with rfl | hor
      · exact this
      · exact hS _ this _ hor
    refine List.Pairwise.cons (fun y hy => ?_) (Val.bef (S := z :: S) ?_ h.2.2.2)
    · cases hb : inBef (befL all []) y z with
      | false => rfl
      | true => exact absurd (List.mem_cons_of_mem _ (hz y hb)) (Val.mem h.2.2.2 y hy).1
    · intro x hx y hy
      rcases List.mem_cons.1 hx with rfl | hx
      · exact List.mem_cons_of_mem _ (hz y hy)
      · exact List.mem_cons_of_mem _ (hS x hx y hy)

def edgesOk (all : List Oper) : Prop := ∀ i o, all[i]? = some o → ∀ e ∈ o.after, Region.binds .any e = true → e.on < i

theorem go_val (hE : edgesOk all) : ∀ (fuel t : Nat) (listed : Array Bool) (S : List Nat), listed.size = all.length →
    (∀ x, x < all.length → (listed.getD x true = true ↔ x ∈ S)) → (∀ x ∈ S, x < all.length) → S.Nodup → S.length + fuel = all.length →
    Val all S (Region.linearise.go .any all.toArray fuel t listed []) ∧ (Region.linearise.go .any all.toArray fuel t listed []).length = fuel := by
  intro fuel
  induction fuel with
  | zero => intro t listed S _ _ _ _ _; exact ⟨by simp [Region.linearise.go, Val], by simp [Region.linearise.go]⟩
  | succ fuel ih =>
    intro t listed S hsz hl hS hnd hlen
    have hex : ∃ x, x < all.length ∧ x ∉ S := by
      by_cases hc : ∃ x, x < all.length ∧ x ∉ S
      · exact hc
      · exfalso
        have hsub : ∀ x, x ∈ List.range all.length ↔ x ∈ S := fun x => by
          rw [List.mem_range]
          exact ⟨fun h => by by_cases hx : x ∈ S; exact hx; exact absurd ⟨x, h, hx⟩ hc, fun h => hS x h⟩
        have := ((List.perm_ext_iff_of_nodup List.nodup_range hnd).2 hsub).length_eq
        simp at this; omega
    have hready : Region.ready .any all.toArray listed ≠ [] := by
      -- the least that is not listed
      have : ∀ n x, x < n → x < all.length → x ∉ S → ∃ y, y ∈ Region.ready .any all.toArray listed := by
        intro n
        induction n with
        | zero => intro x h; omega
        | succ n ihn =>
          intro x hx hxl hxS
          by_cases hy : ∃ y, y < x ∧ y ∉ S
          · obtain ⟨y, hy1, hy2⟩ := hy
            exact ihn y (by omega) (by omega) hy2
          · refine ⟨x, mem_ready.2 ⟨?_, all[x], by simp [hxl], ?_⟩⟩
            · cases hg : listed.getD x true with
              | false => rfl
              | true => exact absurd ((hl x hxl).1 hg) hxS
            · intro e he hb
              have hlt := hE x all[x] (by simp [hxl]) e he hb
              have hin : e.on ∈ S := by
                by_cases h : e.on ∈ S
                · exact h
                · exact absurd ⟨_, hlt, h⟩ hy
              have := (hl e.on (by omega)).2 hin
              have hlt' : e.on < listed.size := by omega
              simp [Array.getD, hlt'] at this ⊢
              exact this
      obtain ⟨x, hx1, hx2⟩ := hex
      obtain ⟨y, hy⟩ := this (x + 1) x (by omega) hx1 hx2
      intro h; rw [h] at hy; cases hy
    have hpos : 0 < (Region.ready .any all.toArray listed).length := List.length_pos_iff.2 hready
    have hlt := Nat.mod_lt t hpos
    have key : Region.linearise.go .any all.toArray (fuel + 1) t listed [] =
        (Region.ready .any all.toArray listed)[t % (Region.ready .any all.toArray listed).length] ::
          Region.linearise.go .any all.toArray fuel (t / (Region.ready .any all.toArray listed).length)
            (listed.setIfInBounds ((Region.ready .any all.toArray listed)[t % (Region.ready .any all.toArray listed).length]) true) [] := by
      simp only [Region.linearise.go]
      change (match (Region.ready .any all.toArray listed)[t % (Region.ready .any all.toArray listed).length]? with
        | some i => Region.linearise.go .any all.toArray fuel (t / (Region.ready .any all.toArray listed).length) (listed.setIfInBounds i true) [i]
        | none => [].reverse) = _
      rw [List.getElem?_eq_getElem hlt]
      simp only []
      rw [linearise_go_acc, List.reverse_singleton, List.singleton_append]
    rw [key]
    generalize hz : (Region.ready .any all.toArray listed)[t % (Region.ready .any all.toArray listed).length] = z
    have hzr : z ∈ Region.ready .any all.toArray listed := hz ▸ List.getElem_mem hlt
    obtain ⟨hzu, oz, hoz, hze⟩ := mem_ready.1 hzr
    have hzl : z < all.length := by
      have := (Array.getElem?_eq_some_iff.1 hoz).1; simpa using this
    have hzS : z ∉ S := fun h => by rw [(hl z hzl).2 h] at hzu; cases hzu
    have hoz' : all[z]? = some oz := by simpa using hoz
    have ih' := ih (t / (Region.ready .any all.toArray listed).length) (listed.setIfInBounds z true) (z :: S) (by simpa using hsz)
      (fun x hx => by
        by_cases e : z = x
        · subst e
          have : z < listed.size := by omega
          simp [Array.getD, this]
        · rw [getD_set_ne true e, hl x hx, List.mem_cons]
          exact ⟨.inr, fun h => h.resolve_left fun h => e h.symm⟩)
      (fun x hx => by rcases List.mem_cons.1 hx with rfl | hx; exact hzl; exact hS x hx) (List.nodup_cons.2 ⟨hzS, hnd⟩) (by simp; omega)
    refine ⟨⟨hzS, hzl, fun o ho e he hb => ?_, ih'.1⟩, by simp [ih'.2]⟩
    rw [hoz'] at ho; cases ho
    have h1 := hze e he hb
    have hlt2 : e.on < z := hE z oz hoz' e he hb
    refine (hl e.on (by omega)).1 ?_
    have hlt' : e.on < listed.size := by omega
    simp [Array.getD, hlt'] at h1 ⊢
    exact h1

theorem lin_spec (hE : edgesOk all) (t : Nat) :
    (Region.linearise .any all.toArray t).Perm (List.range all.length) ∧ (Region.linearise .any all.toArray t).Nodup ∧ (∀ x ∈ Region.linearise .any all.toArray t, x < all.length) ∧
      (Region.linearise .any all.toArray t).Pairwise fun z y => inBef (befL all []) y z = false := by
  have h := go_val hE all.length t (Array.replicate all.length false) [] (by simp) (fun x hx => by simp [Array.getD, hx]) (fun x hx => by cases hx) List.nodup_nil (by simp)
  have e : Region.linearise .any all.toArray t = Region.linearise.go .any all.toArray all.length t (Array.replicate all.length false) [] := by simp [Region.linearise]
  rw [e]
  have hm := fun x hx => (Val.mem h.1 x hx).2
  have hnd := Val.nodup h.1
  refine ⟨?_, hnd, hm, Val.bef (fun x hx => by cases hx) h.1⟩
  generalize Region.linearise.go .any all.toArray all.length t (Array.replicate all.length false) [] = π at *
  -- as many as there are, none twice
  have sub : ∀ (n : Nat) (l : List Nat), l.Nodup → (∀ x ∈ l, x < n) → l.length = n → ∀ x, x < n → x ∈ l := by
    intro n
    induction n with
    | zero => intro l _ _ _ x hx; omega
    | succ n ihn =>
      intro l hnd hm hlen x hx
      by_cases hn : n ∈ l
      · have hl' := ihn (l.erase n) (hnd.erase n) (fun y hy => by
          have h1 := hm y (List.mem_of_mem_erase hy)
          have h2 : y ≠ n := fun e => by subst e; exact (List.Nodup.mem_erase_iff hnd).1 hy |>.1 rfl
          omega) (by rw [List.length_erase_of_mem hn]; omega)
        by_cases hxn : x = n
        · subst hxn; exact hn
        · exact List.mem_of_mem_erase (hl' x (by omega))
      · exfalso
        have hb : ∀ y ∈ l, y < n := fun y hy => by
          have h1 := hm y hy
          have h2 : y ≠ n := fun e => hn (e ▸ hy)
          omega
        have : l.length ≤ n := by
          have := List.Nodup.length_le_of_subset (l₁ := l) (l₂ := List.range n) hnd (fun y hy => List.mem_range.2 (hb y hy))
          simpa using this
        omega
  exact (List.perm_ext_iff_of_nodup hnd List.nodup_range).2 fun x => by
    rw [List.mem_range]
    exact ⟨hm x, sub _ π hnd hm h.2 x⟩

end
/-! ## Regions that draw their order: the check -/

def oprL : Op → List Operand
  | .alloc _ | .ready _ | .waits _ => []
  | .move x | .assign x | .box _ x | .load _ x | .nilCheck x | .unOp _ _ x | .convert _ _ x | .sliceToArrayPointer _ x | .makeInterface _ x
  | .makeChan _ x | .fieldAddr _ x _ | .field _ x _ | .range _ x | .next x _ | .entry x | .typeAssert x _ _ _ | .extract x _ | .panic x | .recv _ x _ => [x]
  | .pick c a b => [c, a, b]
  | .build _ ps | .buildSlice _ _ ps => ps.toList.map (·.2)
  | .store _ a v | .binOp _ _ a v _ | .makeSlice _ a v | .indexAddr _ a v | .index _ a v | .lookup _ a v _ | .mapEntry _ a v | .send a v => [a, v]
  | .makeFunc _ first captured => first.toList ++ captured.toList
  | .makeMap _ r => r.toList
  | .slice _ x l h m => x :: (l.toList ++ h.toList ++ m.toList)
  | .mapUpdate _ m k v | .entryStore _ m k v | .insert _ m k v => [m, k, v]
  | .call c | .go c | .defer c => (match c.callee with | .value f => [f] | .invoke r _ => [r] | .builtin _ => []) ++ c.args.toList
  | .select cs b => (Op.select cs b).operands.toList

theorem oprL_eq (op : Op) : op.operands.toList = oprL op := by
  cases op <;> simp [Op.operands, oprL, Call.operands]
  all_goals (rename_i c; cases hc : c.callee <;> simp [hc])

def looksL (all : List Oper) (o : Oper) : List Nat :=
  ((oprL o.op).filterMap fun | .tmp t => some t | _ => none) ++
  (match o.guard with
   | some (g, _) => (match (all[g]?).bind (·.dst) with | some d => [d] | none => [])
   | none => [])
theorem looksL_eq (all : List Oper) (o : Oper) : o.looksAt all.toArray = looksL all o := by
  unfold Oper.looksAt looksL
  rw [oprL_eq]
  congr 1
  cases o.guard with
  | none => rfl
  | some g =>
    simp only [List.getElem?_toArray]
    cases (all[g.1]?).bind (·.dst) <;> rfl

def hitsB (d : Option Tmp) (l : List Nat) : Bool := match d with | some d => memN d l | none => false
def sameB (a b : Option Tmp) : Bool := match a, b with | some a, some b => Nat.beq a b | _, _ => false
def apartB (all : List Oper) (x y : Oper) : Bool := !hitsB x.dst (looksL all y) && !sameB x.dst y.dst && !hitsB y.dst (looksL all x)

section
variable {P : Program} {all : List Oper} {bs : List (List Nat)} {N : Nat} {m : Bool}

theorem hitsB_false {d : Option Tmp} {l : List Nat} (h : (!hitsB d l) = true) : ∀ x, d = some x → x ∉ l := by
  rintro x rfl hm
  simp only [hitsB, Bool.not_eq_true'] at h
  rw [memN_iff.2 hm] at h; cases h
theorem sameB_false {a b : Option Tmp} (h : (!sameB a b) = true) : ∀ d, a = some d → b ≠ some d := by
  rintro d rfl rfl
  simp [sameB] at h

theorem apartB_of {x y : Oper} (h : apartB all x y = true) : x.apart all.toArray y = true := by
  simp only [apartB, Bool.and_eq_true] at h
  obtain ⟨⟨h1, h2⟩, h3⟩ := h
  have e1 := hitsB_false h1
  have e2 := sameB_false h2
  have e3 := hitsB_false h3
  simp only [Oper.apart, looksL_eq, Bool.and_eq_true]
  refine ⟨?_, ?_⟩
  · split
    · rename_i d hd
      simp only [Bool.and_eq_true, Bool.not_eq_true', bne_iff_ne]
      exact ⟨by simpa using e1 d hd, e2 d hd⟩
    · rfl
  · split
    · rename_i d hd
      simpa using e3 d hd
    · rfl

def plainB : Op → Bool | .defer _ => false | .select .. => false | _ => true
def rdB (P : Program) (o : Oper) : Bool := isRd (sclsB P o)

def aOk (P : Program) (all : List Oper) (N : Nat) (o : Oper) : Bool :=
  plainB o.op && (match o.dst with | some d => Nat.blt d N | none => true) && (!rdB P o || !hitsB o.dst (looksL all o))
theorem aOk_of {o : Oper} (h : aOk P all N o = true) : Aok P all N o := by
  simp only [aOk, Bool.and_eq_true, Bool.or_eq_true] at h
  obtain ⟨⟨h1, h2⟩, h3⟩ := h
  refine ⟨fun c hc => by simp [plainB, hc] at h1, fun cs b hc => by simp [plainB, hc] at h1, fun d hd => by simp only [hd] at h2; simpa using h2, fun hr d hd => ?_⟩
  rw [looksL_eq]
  rcases h3 with h3 | h3
  · simp [rdB, hr] at h3
  · exact hitsB_false h3 d hd

def rokB (P : Program) (all : List Oper) (oy ox : Oper) : Bool := !rdB P oy || (!hitsB ox.dst (looksL all oy) && !sameB ox.dst oy.dst)

/-- Neither way: which comes first tells. -/
def critB (P : Program) (bs : List (List Nat)) (p z : Nat) (op oz : Oper) : Bool := isE (sclsB P op) && isE (sclsB P oz) && !inBef bs p z && !inBef bs z p

def pokB (P : Program) (all : List Oper) (bs : List (List Nat)) (p z : Nat) (op oz : Oper) : Bool :=
  inBef bs p z || critB P bs p z op oz || (apartB all op oz && swapOk (sclsB P op) (sclsB P oz))

def on2 (all : List Oper) (p z : Nat) (F : Oper → Oper → Bool) : Bool := match all[p]?, all[z]? with | some op, some oz => F op oz | _, _ => false

def pairsB (F : Nat → Nat → Bool) : List Nat → Bool
  | [] => true
  | p :: rest => rest.all (F p) && pairsB F rest
theorem pairsB_of {F : Nat → Nat → Bool} : ∀ {l : List Nat}, pairsB F l = true → l.Pairwise fun p z => F p z = true
  | [], _ => List.Pairwise.nil
  | p :: rest, h => by
    simp only [pairsB, Bool.and_eq_true, List.all_eq_true] at h
    exact List.Pairwise.cons h.1 (pairsB_of h.2)
theorem pair_sub {R : Nat → Nat → Prop} {l : List Nat} {p z : Nat} (h : l.Pairwise R) (hs : [p, z].Sublist l) : R p z := by
  have := h.sublist hs
  simpa using this

def bfr : List Nat → Nat → Nat → Bool
  | [], _, _ => false
  | x :: xs, z, p => match Nat.beq x z with | true => memN p xs | false => bfr xs z p
theorem bfr_of {z p : Nat} : ∀ {l : List Nat}, [z, p].Sublist l → bfr l z p = true
  | [], h => by cases h
  | x :: xs, h => by
    simp only [bfr]
    cases hb : Nat.beq x z with
    | true =>
      refine memN_iff.2 ?_
      cases h with
      | cons _ h => exact h.subset (by simp)
      | cons_cons _ h => exact h.subset (by simp)
    | false =>
      cases h with
      | cons _ h => exact bfr_of h
      | cons_cons _ h => exact absurd rfl (Nat.ne_of_beq_eq_false hb)

/-- The orders there are of some of the operations. -/
def lins (bs : List (List Nat)) : Nat → List Nat → List (List Nat)
  | 0, _ => [[]]
  | n + 1, X => X.flatMap fun x => match X.all (fun y => Nat.beq y x || !inBef bs y x) with | true => (lins bs n (X.erase x)).map (x :: ·) | false => []

theorem mem_lins : ∀ (l X : List Nat), l.Perm X → (l.Pairwise fun z y => inBef bs y z = false) → l ∈ lins bs X.length X
  | [], X, hp, _ => by rw [List.nil_perm.1 hp]; exact List.mem_singleton_self _
  | x :: l, X, hp, hv => by
    have hlen : X.length = l.length + 1 := by simpa using hp.length_eq.symm
    rw [hlen]
    simp only [lins, List.mem_flatMap]
    refine ⟨x, hp.subset List.mem_cons_self, ?_⟩
    have hall : (X.all fun y => Nat.beq y x || !inBef bs y x) = true := by
      rw [List.all_eq_true]
      intro y hy
      rcases List.mem_cons.1 (hp.symm.subset hy) with rfl | hy
      · simp
      · have := (List.pairwise_cons.1 hv).1 y hy
        simp [this]
    rw [hall]
    simp only []
    refine List.mem_map.2 ⟨l, ?_, rfl⟩
    have hp' : l.Perm (X.erase x) := by
      have := hp.erase x
      simpa using this
    have := mem_lins l (X.erase x) hp' (List.pairwise_cons.1 hv).2
    rwa [hp'.length_eq.symm] at this

def isCrit (P : Program) (all : List Oper) (bs : List (List Nat)) (n : Nat) (p : Nat) : Bool := (List.range n).any fun z => on2 all p z (critB P bs p z)
def critsOf (P : Program) (all : List Oper) (bs : List (List Nat)) : List Nat := (List.range all.length).filter (isCrit P all bs all.length)

/-- An order that goes with what is said of the critical ones. -/
def goesWith (P : Program) (all : List Oper) (bs : List (List Nat)) (e ord : List Nat) : Bool :=
  pairsB (fun p z => !(on2 all p z (critB P bs p z)) || !(bfr e z p)) ord

def ordOk (P : Program) (all : List Oper) (bs : List (List Nat)) (ord : List Nat) : Bool :=
  ord.isPerm (List.range all.length) && pairsB (fun p z => on2 all p z fun op oz => pokB P all bs p z op oz && rokB P all op oz) ord

def edgeB (all : List Oper) : Nat → List Oper → Bool
  | _, [] => true
  | i, o :: os => (o.after.toList.all fun e => !Region.binds .any e || Nat.blt e.on i) && edgeB all (i + 1) os
theorem edgeB_of : ∀ {l : List Oper} {k : Nat}, edgeB all k l = true → ∀ j o, l[j]? = some o → ∀ e ∈ o.after, Region.binds .any e = true → e.on < k + j
  | [], _, _, j, o, h => by simp at h
  | x :: l, k, h, j, o, hj => by
    simp only [edgeB, Bool.and_eq_true, List.all_eq_true] at h
    cases j with
    | zero =>
      simp only [List.getElem?_cons_zero, Option.some.injEq] at hj
      subst hj
      intro e he hb
      have := h.1 e (by simpa using he)
      simpa [hb] using this
    | succ j =>
      intro e he hb
      have := edgeB_of h.2 j o (by simpa using hj) e he hb
      omega

def drawB (P : Program) (N : Nat) (x : List Oper × List (List Nat)) : Bool :=
  edgeB x.1 0 x.1 && x.1.all (opOk N) && x.1.all (aOk P x.1 N) && x.2.all (ordOk P x.1 (befL x.1 [])) &&
    (lins (befL x.1 []) (critsOf P x.1 (befL x.1 [])).length (critsOf P x.1 (befL x.1 []))).all fun e => x.2.any (goesWith P x.1 (befL x.1 []) e)

theorem vcDraw_mem : ∀ {ords : List (List Nat)} {fr : Fr} {h : Heap} {K : Fr → Heap → Prop}, vcDraw P all ords fr h K → ∀ o ∈ ords, vcOrd P all (befL all []) o [] fr h K
  | [], _, _, _, _, o, ho => by cases ho
  | [x], _, _, _, hk, o, ho => by rw [List.mem_singleton.1 ho]; exact hk
  | x :: y :: ys, _, _, _, hk, o, ho => by
    rcases List.mem_cons.1 ho with rfl | ho
    · exact hk.1
    · exact vcDraw_mem hk.2 o ho

theorem draw_ok (hP : POK P) (hmix : P.follows .mixedOrders = true) {r : Option Nat} {x : List Oper × List (List Nat)} (hb : drawB P N x = true) : DrawOk P r N m x := by
  obtain ⟨all, ords⟩ := x
  simp only [drawB, Bool.and_eq_true] at hb
  obtain ⟨⟨⟨⟨hE, hok⟩, hA⟩, hO⟩, hL⟩ := hb
  have hE' : edgesOk all := fun i o ho e he hb => by simpa using edgeB_of hE i o ho e he hb
  intro id Q fr a w hAg hk
  refine wpIn_region_draw fun t => ?_
  have hsch : Region.schedule (P.follows .mixedOrders) all.toArray t = Region.linearise .any all.toArray t := by simp [Region.schedule, hmix]
  rw [hsch]
  obtain ⟨hperm, hnd, hlt, hval⟩ := lin_spec hE' t
  generalize Region.linearise .any all.toArray t = π at *
  -- the order that goes with this one
  have hX : (π.filter fun i => isCrit P all (befL all []) all.length i) ∈ lins (befL all []) (critsOf P all (befL all [])).length (critsOf P all (befL all [])) :=
    mem_lins _ _ (hperm.filter _) (hval.filter _)
  have := List.all_eq_true.1 hL _ hX
  obtain ⟨ord, hord, hgo⟩ := List.any_eq_true.1 this
  have hoo := List.all_eq_true.1 hO ord hord
  simp only [ordOk, Bool.and_eq_true] at hoo
  obtain ⟨hop, hpr⟩ := hoo
  have hpr' := pairsB_of hpr
  have hgo' := pairsB_of hgo
  have hvc := vcDraw_mem hk ord hord
  have hch := ch_of (m := m) hP hok (fr0 := fr) (a0 := a) (w0 := { w with drawn := w.drawn + 1 }) (Q := Q) ord [] fr a { w with drawn := w.drawn + 1 } hAg rfl (Same.refl _) (Ext.refl _ _) hvc
  have hchK : Ch P all (befL all []) (fun a' w' => a'.tmps.size = N → post N m (opDs all) Q fr a w .normal a' w') ord [] a { w with drawn := w.drawn + 1 } := by
    have mono : ∀ {K K' : Act → World → Prop} (hKK : ∀ a w, K a w → K' a w) (C D : List Nat) (a : Act) (w : World), Ch P all (befL all []) K C D a w → Ch P all (befL all []) K' C D a w := by
      intro K K' hKK C
      induction C with
      | nil => intro D a w h; exact hKK _ _ h
      | cons i rest ih =>
        intro D a w h
        obtain ⟨o, ho, h⟩ := h
        exact ⟨o, ho, SC.mono ⟨rfl, rfl⟩ (fun u w' hh => ⟨hh.1, ih _ _ _ hh.2⟩) h⟩
    refine mono ?_ _ _ _ _ hch
    rintro a' w' ⟨h1, h2, h3⟩ _
    exact ⟨h1, h2, h3⟩
  refine runs (N := N) (Q := post N m (opDs all) Q fr a w) (fun o ho => aOk_of (List.all_eq_true.1 hA o ho)) π ord a _ hAg.1 ((List.isPerm_iff.1 hop).trans hperm.symm) hnd hlt ?_ ?_ hchK
  · refine hpr'.imp ?_
    intro y x h oy ox hy hx hrd d hd
    simp only [on2, hy, hx, Bool.and_eq_true] at h
    have hr := h.2
    simp only [rokB, rdB, hrd, Bool.not_true, Bool.false_or, Bool.and_eq_true] at hr
    refine ⟨by rw [looksL_eq]; exact hitsB_false hr.1 d hd, fun e => ?_⟩
    exact sameB_false hr.2 d hd e
  · intro p z h1 h2 op oz hp hz
    have hq := pair_sub hpr' h1
    simp only [on2, hp, hz, Bool.and_eq_true, pokB, Bool.or_eq_true] at hq
    have hnb : inBef (befL all []) p z = false := pair_sub hval h2
    rcases hq.1 with (hq | hq) | hq
    · rw [hnb] at hq; cases hq
    · exfalso
      have hg := pair_sub hgo' h1
      simp only [on2, hp, hz, hq, Bool.not_true, Bool.false_or, Bool.not_eq_true'] at hg
      have hc : isCrit P all (befL all []) all.length p = true := List.any_eq_true.2 ⟨z, List.mem_range.2 (List.getElem?_eq_some_iff.1 hz).1, by simp [on2, hp, hz, hq]⟩
      have hq' : critB P (befL all []) z p oz op = true := by
        simp only [critB, Bool.and_eq_true] at hq ⊢
        exact ⟨⟨⟨hq.1.1.2, hq.1.1.1⟩, hq.2⟩, hq.1.2⟩
      have hc' : isCrit P all (befL all []) all.length z = true := List.any_eq_true.2 ⟨p, List.mem_range.2 (List.getElem?_eq_some_iff.1 hp).1, by simp [on2, hp, hz, hq']⟩
      have hs := h2.filter (fun i => isCrit P all (befL all []) all.length i)
      simp only [List.filter_cons, hc, hc', if_true, List.filter_nil] at hs
      rw [bfr_of hs] at hg; cases hg
    · exact ⟨apartB_of hq.1, hq.2, hnb⟩

theorem draws_of (hP : POK P) (hmix : P.follows .mixedOrders = true) {r : Option Nat} {ac : AC} (h : (drawsOf ac).all (drawB P N) = true) : ∀ x ∈ drawsOf ac, DrawOk P r N m x :=
  fun x hx => draw_ok hP hmix (List.all_eq_true.1 h x hx)

end
end Go.Proofs.Ytoldgeolocfmiaa.V
