/- Trees, as they lie in memory. -/
import Derived.Test.YtoldgeolocfmiaaC1
import Derived.Test.YtoldgeolocfmiaaC2
import Derived.Test.YtoldgeolocfmiaaT
import Derived.Laws.Strings
namespace Go.Proofs.Ytoldgeolocfmiaa
open Go Go.Proofs Go.Proofs.Ytoldgeolocfmiaa.V
/-! ## Calls that answer one value, and change nothing that was there -/

def Ret (P : Program) (f : FuncId) (args : Array Value) (h : Heap) (v : Value) : Prop := CallsH P f args h fun e h' => ∃ u, e = .returned u ∧ u = v ∧ Frm [] h h'
theorem Ret.use {P : Program} {f : FuncId} {args : Array Value} {h : Heap} {v : Value} {K : Value → Heap → Prop} {Q : List PanicEntry → Heap → Prop} (hr : Ret P f args h v) (hk : ∀ h', Frm [] h h' → K v h') : CallsH P f args h (endH K Q) :=
  CallsH.ret (R := fun u h' => u = v ∧ Frm [] h h') hr (by rintro u h' ⟨rfl, f⟩; exact hk h' f)
/-- A call that makes nothing. -/
def Pur (P : Program) (f : FuncId) (args : Array Value) (h : Heap) (v : Value) : Prop := CallsH P f args h fun e h' => ∃ u, e = .returned u ∧ u = v ∧ h' = h
theorem Pur.use {P : Program} {f : FuncId} {args : Array Value} {h : Heap} {v : Value} {K : Value → Heap → Prop} {Q : List PanicEntry → Heap → Prop} (hr : Pur P f args h v) (hk : K v h) : CallsH P f args h (endH K Q) :=
  CallsH.ret (R := fun u h' => u = v ∧ h' = h) hr (by rintro u h' ⟨rfl, rfl⟩; exact hk)
theorem Pur.ret {P : Program} {f : FuncId} {args : Array Value} {h : Heap} {v : Value} (hr : Pur P f args h v) : Ret P f args h v :=
  CallsH.mono hr fun _ _ ⟨u, e1, e2, e3⟩ => ⟨u, e1, e2, e3 ▸ Frm.refl _ _⟩
theorem Ret.then {P : Program} {f : FuncId} {args : Array Value} {h h1 : Heap} {v : Value} (g : Frm [] h h1) (hr : Ret P f args h1 v) : CallsH P f args h1 fun e h' => ∃ u, e = .returned u ∧ u = v ∧ Frm [] h h' :=
  CallsH.mono hr fun _ _ ⟨u, e1, e2, e3⟩ => ⟨u, e1, e2, g.trans e3⟩

/-- A counted loop: what an invariant of the count says. -/
theorem loop_nat {h : Heap} {N : Nat} {X : Nat → Heap → Prop} {Bd : Int → Heap → (List Value → Heap → Prop) → (List Value → Heap → Nat) → Prop} (h0 : X 0 h)
    (hb : ∀ (k : Nat) (h' : Heap), k ≤ N → X k h' → ∀ (I : List Value → Heap → Prop) (μ : List Value → Heap → Nat),
      (∀ h'', k < N → X (k + 1) h'' → I [.int .i64 ((k : Int) + 1)] h'' ∧ μ [.int .i64 ((k : Int) + 1)] h'' < μ [.int .i64 (k : Int)] h') → Bd (k : Int) h' I μ) :
    ∃ (I : List Value → Heap → Prop) (μ : List Value → Heap → Nat), I [.int .i64 0] h ∧ ∀ (n : Int) (_D : Nat → Value) (h' : Heap), I [.int .i64 n] h' → Bd n h' I μ := by
  refine ⟨fun vs h' => ∃ k : Nat, vs = [.int .i64 (k : Int)] ∧ k ≤ N ∧ X k h', fun vs _ => match vs with | [.int _ k] => N - k.toNat | _ => 0, ⟨0, rfl, Nat.zero_le _, h0⟩, ?_⟩
  rintro n _ h' ⟨k, e, hk, hx⟩
  simp only [List.cons.injEq, Value.int.injEq, true_and, and_true] at e
  subst e
  refine hb k h' hk hx _ _ fun h'' hlt hx' => ⟨⟨k + 1, rfl, hlt, hx'⟩, ?_⟩
  show N - ((k : Int) + 1).toNat < N - ((k : Int)).toNat
  omega

/-! ## Trees -/

inductive ND where
  | mk (kind : Int) (name : ByteArray) (num : Int) (text : ByteArray) (names : List ByteArray) (l : List ND)
namespace ND
def kind : ND → Int | mk k _ _ _ _ _ => k
def name : ND → ByteArray | mk _ n _ _ _ _ => n
def num : ND → Int | mk _ _ n _ _ _ => n
def text : ND → ByteArray | mk _ _ _ t _ _ => t
def names : ND → List ByteArray | mk _ _ _ _ ns _ => ns
def l : ND → List ND | mk _ _ _ _ _ l => l
mutual
def deep : ND → Nat
  | mk _ _ _ _ _ l => deepAll l + 1
def deepAll : List ND → Nat
  | [] => 0
  | n :: r => max (deep n) (deepAll r)
end
mutual
def size : ND → Nat
  | mk _ _ _ _ ns l => sizeAll l + ns.length + 1
def sizeAll : List ND → Nat
  | [] => 0
  | n :: r => size n + sizeAll r
end
theorem deep_eq (n : ND) : n.deep = deepAll n.l + 1 := by cases n; simp [deep, l]
theorem size_eq (n : ND) : n.size = sizeAll n.l + n.names.length + 1 := by cases n; simp [size, l, names]
theorem deepAll_le : ∀ {l : List ND} {n : ND}, n ∈ l → n.deep ≤ deepAll l
  | [], _, h => by cases h
  | a :: r, n, h => by
    simp only [deepAll]
    rcases List.mem_cons.1 h with rfl | h
    · omega
    · have := deepAll_le h; omega
theorem sizeAll_le : ∀ {l : List ND} {n : ND}, n ∈ l → n.size ≤ sizeAll l
  | [], _, h => by cases h
  | a :: r, n, h => by
    simp only [sizeAll]
    rcases List.mem_cons.1 h with rfl | h
    · omega
    · have := sizeAll_le h; omega
theorem size_pos (n : ND) : 1 ≤ n.size := by rw [size_eq]; omega
theorem length_le : ∀ (l : List ND), l.length ≤ sizeAll l
  | [] => by simp
  | a :: r => by have := length_le r; have := size_pos a; simp only [sizeAll, List.length_cons]; omega
theorem deep_le_size : ∀ (k : Nat) (n : ND), n.size ≤ k → n.deep ≤ n.size
  | 0, n, h => by have := size_pos n; omega
  | k + 1, n, h => by
    rw [deep_eq, size_eq] at *
    have : ∀ l : List ND, sizeAll l ≤ k → deepAll l ≤ sizeAll l := by
      intro l
      induction l with
      | nil => intro _; simp [deepAll]
      | cons a r ih =>
        intro h
        simp only [sizeAll] at h
        have h1 := deep_le_size k a (by omega)
        have h2 := ih (by omega)
        simp only [deepAll, sizeAll]; omega
    have := this n.l (by omega)
    omega
theorem kid_deep {n k : ND} (h : k ∈ n.l) : k.deep < n.deep := by have := deepAll_le h; rw [deep_eq n]; omega
theorem kid_size {n k : ND} (h : k ∈ n.l) : k.size < n.size := by have := sizeAll_le h; rw [size_eq n]; omega
end ND

/-- A row of strings. -/
def StrsAt (h : Heap) (a : Option Addr) (n : Nat) (l : List ByteArray) : Prop := l.length = n ∧ ∀ i s, l[i]? = some s → ∃ ad, a = some ad ∧ cl h (ad.add i) = some (.string s)
theorem StrsAt.frm {h h' : Heap} (f : Frm [] h h') {a : Option Addr} {n : Nat} {l : List ByteArray} (hs : StrsAt h a n l) : StrsAt h' a n l :=
  ⟨hs.1, fun i s hi => let ⟨ad, e, hc⟩ := hs.2 i s hi; ⟨ad, e, f.cl hc (by simp)⟩⟩
theorem StrsAt.nil (h : Heap) (a : Option Addr) : StrsAt h a 0 [] := ⟨rfl, fun i s hi => by simp at hi⟩

/-- A node's fields. -/
structure NV where
  k : Int
  nm : ByteArray
  num : Int
  tx : ByteArray
  a : Option Addr
  n : Nat
  c : Nat
  b : Option Addr
  m : Nat
  d : Nat
abbrev NV.cells (x : NV) : Array Value := #[.int .i64 x.k, .string x.nm, .int .i64 x.num, .string x.tx, .slice x.a x.n x.c, .slice x.b x.m x.d]
abbrev NV.val (x : NV) : Value := .agg #[.int .i64 x.k, .string x.nm, .int .i64 x.num, .string x.tx, .slice x.a x.n x.c, .slice x.b x.m x.d]
/-- A node's fields, as they lie in memory. -/
structure NVAt (h : Heap) (ad : Addr) (x : NV) : Prop where
  k : cl h ad = some (.int .i64 x.k)
  nm : cl h (ad.add 1) = some (.string x.nm)
  num : cl h (ad.add 2) = some (.int .i64 x.num)
  tx : cl h (ad.add 3) = some (.string x.tx)
  names : cl h (ad.add 4) = some (.slice x.a x.n x.c)
  l : cl h (ad.add 5) = some (.slice x.b x.m x.d)
theorem NVAt.frm {h h' : Heap} (f : Frm [] h h') {ad : Addr} {x : NV} (hx : NVAt h ad x) : NVAt h' ad x :=
  ⟨f.cl hx.k (by simp), f.cl hx.nm (by simp), f.cl hx.num (by simp), f.cl hx.tx (by simp), f.cl hx.names (by simp), f.cl hx.l (by simp)⟩

inductive NodeAt (h : Heap) : NV → ND → Prop
  | mk {x : NV} {kids : List ND} {names : List ByteArray} (vs : Nat → NV) (hn : StrsAt h x.a x.n names) (hl : kids.length = x.m)
      (hv : ∀ i, i < x.m → ∃ ad, x.b = some ad ∧ NVAt h (ad.add (i * 6)) (vs i)) (hk : ∀ i k, kids[i]? = some k → NodeAt h (vs i) k) :
      NodeAt h x (.mk x.k x.nm x.num x.tx names kids)
/-- A row of nodes. -/
def NodesAt (h : Heap) (b : Option Addr) (m : Nat) (l : List ND) : Prop := l.length = m ∧ ∀ i k, l[i]? = some k → ∃ ad y, b = some ad ∧ NVAt h (ad.add (i * 6)) y ∧ NodeAt h y k
theorem NodeAt.frm {h h' : Heap} (f : Frm [] h h') {x : NV} {n : ND} (hx : NodeAt h x n) : NodeAt h' x n := by
  induction hx with
  | mk vs hn hl hv hk ih => exact .mk vs (hn.frm f) hl (fun i hi => let ⟨ad, e, h1⟩ := hv i hi; ⟨ad, e, h1.frm f⟩) fun i k hi => ih i k hi
theorem NodesAt.frm {h h' : Heap} (f : Frm [] h h') {b : Option Addr} {m : Nat} {l : List ND} (hx : NodesAt h b m l) : NodesAt h' b m l :=
  ⟨hx.1, fun i k hi => let ⟨ad, y, e, h1, h2⟩ := hx.2 i k hi; ⟨ad, y, e, h1.frm f, h2.frm f⟩⟩
/-- What a node's value says. -/
theorem NodeAt.open {h : Heap} {x : NV} {n : ND} (hx : NodeAt h x n) : n.kind = x.k ∧ n.name = x.nm ∧ n.num = x.num ∧ n.text = x.tx ∧ StrsAt h x.a x.n n.names ∧ NodesAt h x.b x.m n.l := by
  cases hx with
  | mk vs hn hl hv hk =>
    refine ⟨rfl, rfl, rfl, rfl, hn, hl, fun i k hi => ?_⟩
    have hlt := (List.getElem?_eq_some_iff.1 hi).1
    obtain ⟨ad, e, h1⟩ := hv i (by simp only [ND.l] at hlt; omega)
    exact ⟨ad, vs i, e, h1, hk i k hi⟩
theorem NodeAt.make {h : Heap} {x : NV} {names : List ByteArray} {kids : List ND} (hn : StrsAt h x.a x.n names) (hl : NodesAt h x.b x.m kids) : NodeAt h x (.mk x.k x.nm x.num x.tx names kids) := by
  obtain ⟨h1, h2⟩ := hl
  have h3 : ∀ i, i < x.m → ∃ y : NV, (∃ ad, x.b = some ad ∧ NVAt h (ad.add (i * 6)) y) ∧ ∀ k, kids[i]? = some k → NodeAt h y k := fun i hi => by
    obtain ⟨ad, y, e, h4, h5⟩ := h2 i _ (List.getElem?_eq_getElem (by omega))
    refine ⟨y, ⟨ad, e, h4⟩, fun k hk => ?_⟩
    rw [List.getElem?_eq_getElem (by omega)] at hk
    simp only [Option.some.injEq] at hk
    rw [← hk]; exact h5
  refine .mk (fun i => if hi : i < x.m then Classical.choose (h3 i hi) else ⟨0, ⟨#[]⟩, 0, ⟨#[]⟩, none, 0, 0, none, 0, 0⟩) hn h1 (fun i hi => ?_) fun i k hi => ?_
  · simp only [dif_pos hi]; exact (Classical.choose_spec (h3 i hi)).1
  · have hlt : i < x.m := by have := (List.getElem?_eq_some_iff.1 hi).1; omega
    simp only [dif_pos hlt]; exact (Classical.choose_spec (h3 i hlt)).2 k hi
theorem NodeAt.kind {h : Heap} {x : NV} {n : ND} (hx : NodeAt h x n) : n.kind = x.k := hx.open.1

/-- A node's box: its six cells. -/
theorem box_at {h : Heap} {b : Nat} {x : NV} (hb : h[b]? = some (.cells x.cells 26 (0, 0))) : NVAt h ⟨b, 0, none⟩ x :=
  ⟨by rw [cl_at hb]; rfl, by rw [add_at, cl_at hb]; rfl, by rw [add_at, cl_at hb]; rfl, by rw [add_at, cl_at hb]; rfl, by rw [add_at, cl_at hb]; rfl, by rw [add_at, cl_at hb]; rfl⟩
namespace ND
mutual
/-- Texts that memory can hold. -/
def Str : ND → Prop
  | mk _ nm _ tx ns l => nm.size ≤ 281474976710656 ∧ tx.size ≤ 281474976710656 ∧ (∀ s ∈ ns, s.size ≤ 281474976710656) ∧ StrAll l
def StrAll : List ND → Prop
  | [] => True
  | n :: r => Str n ∧ StrAll r
end
theorem StrAll.mem : ∀ {l : List ND} {n : ND}, StrAll l → n ∈ l → n.Str
  | [], _, _, h => by cases h
  | a :: r, n, hs, h => by
    simp only [StrAll] at hs
    rcases List.mem_cons.1 h with rfl | h
    · exact hs.1
    · exact StrAll.mem hs.2 h
theorem strAll_of : ∀ {l : List ND}, (∀ n ∈ l, n.Str) → StrAll l
  | [], _ => trivial
  | a :: r, h => ⟨h a List.mem_cons_self, strAll_of fun n hn => h n (List.mem_cons_of_mem _ hn)⟩
structure Ok (n : ND) : Prop where
  size : n.size ≤ 1099511627776
  str : n.Str
theorem Ok.name {n : ND} (h : n.Ok) : n.name.size ≤ 281474976710656 := by cases n; have := h.str; simp only [Str] at this; exact this.1
theorem Ok.text {n : ND} (h : n.Ok) : n.text.size ≤ 281474976710656 := by cases n; have := h.str; simp only [Str] at this; exact this.2.1
theorem Ok.ns {n : ND} (h : n.Ok) : ∀ s ∈ n.names, s.size ≤ 281474976710656 := by cases n; have := h.str; simp only [Str] at this; exact this.2.2.1
theorem Ok.kid {n k : ND} (h : n.Ok) (hk : k ∈ n.l) : k.Ok := by
  refine ⟨by have := kid_size hk; have := h.size; omega, ?_⟩
  cases n; have := h.str; simp only [Str] at this; exact this.2.2.2.mem hk
theorem Ok.len {n : ND} (h : n.Ok) : n.l.length ≤ 1099511627776 := by have := length_le n.l; have := h.size; rw [size_eq] at this; omega
theorem Ok.nlen {n : ND} (h : n.Ok) : n.names.length ≤ 1099511627776 := by have := h.size; rw [size_eq] at this; omega
end ND
end Go.Proofs.Ytoldgeolocfmiaa
