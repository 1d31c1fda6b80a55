/- What a Kind has. -/
import Derived.Test.YtoldgeolocfmiaaS3
import Derived.KernelRfl
namespace Go.Proofs.Ytoldgeolocfmiaa
open Go Go.Proofs Go.Proofs.Ytoldgeolocfmiaa.V
theorem stn_at {h : Heap} {b : Nat} {c : Array Value} {t : TypeId} {vs : List Value} {K : Heap → Prop} (hb : h[b]? = some (.cells c t (0, 0))) (hk : vs.length = c.size) (hv : vs.all nonAgg = true)
    (hK : ∀ h', h'[b]? = some (.cells vs.toArray t (0, 0)) → Frm [b] h h' → h'.size = h.size → K h') : StN h ⟨b, 0, none⟩ vs K := by
  show chk _ _
  rw [hv]
  refine ⟨fun i hi => ⟨?_, ?_⟩, ?_⟩
  · rw [add_at, Nat.zero_add, cl_at hb, Array.getElem?_eq_getElem (by omega)]; exact ⟨_, rfl⟩
  · rw [add_at]; exact fz_at hb
  · rintro h' rfl
    have key : ∀ (vs pre rest : List Value) (h : Heap), h[b]? = some (.cells (pre ++ rest).toArray t (0, 0)) → vs.length = rest.length → (stN h ⟨b, 0, none⟩ pre.length vs)[b]? = some (.cells (pre ++ vs).toArray t (0, 0)) ∧ Frm [b] h (stN h ⟨b, 0, none⟩ pre.length vs) ∧ (stN h ⟨b, 0, none⟩ pre.length vs).size = h.size := by
      intro vs
      induction vs with
      | nil =>
        intro pre rest h hb hl
        obtain rfl : rest = [] := List.eq_nil_of_length_eq_zero hl.symm
        exact ⟨hb, Frm.refl _ _, rfl⟩
      | cons v vs ih =>
        intro pre rest h hb hl
        cases rest with
        | nil => cases hl
        | cons r rest =>
          simp only [stN, add_at, Nat.zero_add]
          have hst := st_at (k := pre.length) v hb
          have hb2 : (st h ⟨b, pre.length, none⟩ v)[b]? = some (.cells ((pre ++ [v]) ++ rest).toArray t (0, 0)) := by
            rw [hst, get_set (lt_of_get hb)]
            simp
          have := ih (pre ++ [v]) rest _ hb2 (by simpa using hl)
          rw [List.length_append, List.length_singleton] at this
          obtain ⟨h1, h2, h3⟩ := this
          have f1 : Frm [b] h (st h ⟨b, pre.length, none⟩ v) := by rw [hst]; exact Frm.set _ (by simp)
          refine ⟨by simpa using h1, f1.trans h2, h3.trans ?_⟩
          rw [hst]; simp
    obtain ⟨h1, h2, h3⟩ := key vs [] c.toList h (by simpa using hb) (by simpa using hk)
    exact hK _ (by simpa using h1) h2 h3

/-! ## What a Kind has -/

structure FV where
  nm : ByteArray
  num : Int
  tx : Bool
  ns : Bool
  l : ByteArray
abbrev FV.cells (f : FV) : Array Value := #[.string f.nm, .int .i64 f.num, .bool f.tx, .bool f.ns, .string f.l]
abbrev FV.val (f : FV) : Value := .agg #[.string f.nm, .int .i64 f.num, .bool f.tx, .bool f.ns, .string f.l]
def cut1 (m : Nat) : ByteArray := if m = 0 then ⟨#[]⟩ else ⟨#[101]⟩
def cut3 (m : Nat) : ByteArray := if m ≤ 2 then ⟨#[101, 98]⟩ else ⟨#[101, 98, 98]⟩
def exprForm (k : Int) : Option FV :=
  if k = 1 then some ⟨(⟨#[]⟩ : ByteArray), 9007199254740991, false, false, (⟨#[]⟩ : ByteArray)⟩ else
  if k = 2 then some ⟨(⟨#[]⟩ : ByteArray), 0, true, false, (⟨#[]⟩ : ByteArray)⟩ else
  if k = 3 then some ⟨(⟨#[110]⟩ : ByteArray), 0, false, false, (⟨#[]⟩ : ByteArray)⟩ else
  if k = 4 ∨ k = 5 ∨ k = 40 ∨ k = 42 then some ⟨(⟨#[]⟩ : ByteArray), 0, false, false, (⟨#[]⟩ : ByteArray)⟩ else
  if k = 6 then some ⟨(⟨#[]⟩ : ByteArray), 1, false, false, (⟨#[]⟩ : ByteArray)⟩ else
  if k = 7 then some ⟨(⟨#[]⟩ : ByteArray), 0, false, false, (⟨#[42, 101]⟩ : ByteArray)⟩ else
  if k = 8 then some ⟨(⟨#[]⟩ : ByteArray), 0, false, false, (⟨#[42, 112]⟩ : ByteArray)⟩ else
  if k = 9 then some ⟨(⟨#[]⟩ : ByteArray), 0, true, false, (⟨#[101]⟩ : ByteArray)⟩ else
  if k = 10 then some ⟨(⟨#[109]⟩ : ByteArray), 0, false, true, (⟨#[42, 120]⟩ : ByteArray)⟩ else
  if k = 11 then some ⟨(⟨#[105]⟩ : ByteArray), 0, false, false, (⟨#[101]⟩ : ByteArray)⟩ else
  if k = 12 ∨ k = 21 then some ⟨(⟨#[]⟩ : ByteArray), 0, false, false, (⟨#[101, 101]⟩ : ByteArray)⟩ else
  if k = 13 ∨ k = 14 then some ⟨(⟨#[]⟩ : ByteArray), 0, false, false, (⟨#[101, 42, 101]⟩ : ByteArray)⟩ else
  if k = 15 then some ⟨(⟨#[32, 45, 32, 43, 32, 33, 32, 116, 121, 112, 101, 111, 102, 32, 100, 101, 108, 101, 116, 101, 32, 118, 111, 105, 100, 32]⟩ : ByteArray), 0, false, false, (⟨#[101]⟩ : ByteArray)⟩ else
  if k = 16 then some ⟨(⟨#[32, 43, 43, 32, 45, 45, 32]⟩ : ByteArray), 1, false, false, (⟨#[116]⟩ : ByteArray)⟩ else
  if k = 17 then some ⟨(⟨#[32, 43, 32, 45, 32, 42, 32, 47, 32, 37, 32, 60, 32, 62, 32, 60, 61, 32, 62, 61, 32, 61, 61, 32, 33, 61, 32, 61, 61, 61, 32, 33, 61, 61, 32, 105, 110, 32, 105, 110, 115, 116, 97, 110, 99, 101, 111, 102, 32]⟩ : ByteArray), 0, false, false, (⟨#[101, 101]⟩ : ByteArray)⟩ else
  if k = 18 then some ⟨(⟨#[32, 38, 38, 32, 124, 124, 32]⟩ : ByteArray), 0, false, false, (⟨#[101, 101]⟩ : ByteArray)⟩ else
  if k = 19 then some ⟨(⟨#[]⟩ : ByteArray), 0, false, false, (⟨#[101, 101, 101]⟩ : ByteArray)⟩ else
  if k = 20 then some ⟨(⟨#[32, 61, 32, 43, 61, 32, 45, 61, 32, 42, 61, 32, 47, 61, 32, 37, 61, 32]⟩ : ByteArray), 0, false, false, (⟨#[116, 101]⟩ : ByteArray)⟩ else
  none
def stmtForm (k : Int) (m : Nat) : FV × Bool :=
  if k = 22 then (⟨(⟨#[]⟩ : ByteArray), 0, false, false, (⟨#[100, 42, 100]⟩ : ByteArray)⟩, true) else
  if k = 23 then (⟨(⟨#[110]⟩ : ByteArray), 0, false, false, (cut1 m)⟩, true) else
  if k = 24 ∨ k = 34 then (⟨(⟨#[]⟩ : ByteArray), 0, false, false, (⟨#[101]⟩ : ByteArray)⟩, true) else
  if k = 25 then (⟨(⟨#[]⟩ : ByteArray), 0, false, false, (⟨#[42, 115]⟩ : ByteArray)⟩, true) else
  if k = 26 then (⟨(⟨#[]⟩ : ByteArray), 0, false, false, (cut3 m)⟩, true) else
  if k = 27 then (⟨(⟨#[]⟩ : ByteArray), 0, false, false, (⟨#[101, 98]⟩ : ByteArray)⟩, true) else
  if k = 28 then (⟨(⟨#[]⟩ : ByteArray), 0, false, false, (⟨#[98, 101]⟩ : ByteArray)⟩, true) else
  if k = 29 then (⟨(⟨#[]⟩ : ByteArray), 0, false, false, (⟨#[118, 102, 102, 98]⟩ : ByteArray)⟩, true) else
  if k = 30 then (⟨(⟨#[]⟩ : ByteArray), 0, false, false, (⟨#[119, 101, 98]⟩ : ByteArray)⟩, true) else
  if k = 31 ∨ k = 32 then (⟨(⟨#[109]⟩ : ByteArray), 0, false, false, (⟨#[]⟩ : ByteArray)⟩, true) else
  if k = 33 then (⟨(⟨#[]⟩ : ByteArray), 0, false, false, (cut1 m)⟩, true) else
  if k = 35 then (⟨(⟨#[99]⟩ : ByteArray), 0, false, false, (⟨#[98, 99, 99]⟩ : ByteArray)⟩, true) else
  if k = 36 then (⟨(⟨#[]⟩ : ByteArray), 0, false, false, (⟨#[101, 42, 107]⟩ : ByteArray)⟩, true) else
  if k = 37 then (⟨(⟨#[]⟩ : ByteArray), 0, false, false, (⟨#[102, 42, 115]⟩ : ByteArray)⟩, true) else
  if k = 38 then (⟨(⟨#[110]⟩ : ByteArray), 0, false, false, (⟨#[115]⟩ : ByteArray)⟩, true) else
  if k = 39 then (⟨(⟨#[110]⟩ : ByteArray), 0, false, true, (⟨#[42, 120]⟩ : ByteArray)⟩, true) else
  if k = 41 then (⟨(⟨#[]⟩ : ByteArray), 0, false, false, (⟨#[42, 120]⟩ : ByteArray)⟩, true) else
  (⟨⟨#[]⟩, 0, false, false, ⟨#[]⟩⟩, false)
def formOf (k : Int) (m : Nat) : FV × Bool := match exprForm k with | some f => (f, true) | none => stmtForm k m

/-- A form's end: it is told as it stands. -/
def FinF (R : Ending → Heap → Prop) (k : Nat) (h : Heap) (is : Bool) : Prop :=
  ∃ (s16 : ByteArray) (n17 : Int) (b18 : Bool) (b19 : Bool) (s20 : ByteArray), (cl h ⟨k, 0, none⟩ = some (.string s16) ∧ cl h ⟨k, 1, none⟩ = some (.int .i64 n17) ∧ cl h ⟨k, 2, none⟩ = some (.bool b18) ∧ cl h ⟨k, 3, none⟩ = some (.bool b19) ∧ cl h ⟨k, 4, none⟩ = some (.string s20)) ∧
    StN h ⟨k, 0, none⟩ [(.string s16), (.int .i64 n17), (.bool b18), (.bool b19), (.string s20)] fun h21 => ∃ (s22 : ByteArray) (n23 : Int) (b24 : Bool) (b25 : Bool) (s26 : ByteArray), (cl h21 ⟨k, 0, none⟩ = some (.string s22) ∧ cl h21 ⟨k, 1, none⟩ = some (.int .i64 n23) ∧ cl h21 ⟨k, 2, none⟩ = some (.bool b24) ∧ cl h21 ⟨k, 3, none⟩ = some (.bool b25) ∧ cl h21 ⟨k, 4, none⟩ = some (.string s26)) ∧
      R (.returned (.tuple #[(.agg #[(.string s22), (.int .i64 n23), (.bool b24), (.bool b25), (.string s26)]), (.bool is)])) h21
theorem form_at {h : Heap} {b : Nat} {f : FV} (hb : h[b]? = some (.cells f.cells 58 (0, 0))) : cl h ⟨b, 0, none⟩ = some (.string f.nm) ∧ cl h ⟨b, 1, none⟩ = some (.int .i64 f.num) ∧ cl h ⟨b, 2, none⟩ = some (.bool f.tx) ∧ cl h ⟨b, 3, none⟩ = some (.bool f.ns) ∧ cl h ⟨b, 4, none⟩ = some (.string f.l) :=
  ⟨by rw [cl_at hb]; rfl, by rw [cl_at hb]; rfl, by rw [cl_at hb]; rfl, by rw [cl_at hb]; rfl, by rw [cl_at hb]; rfl⟩
theorem finF {R : Ending → Heap → Prop} {k : Nat} {h : Heap} {f : FV} {is : Bool} (hb : h[k]? = some (.cells f.cells 58 (0, 0))) (hR : ∀ h', Frm [k] h h' → R (.returned (.tuple #[f.val, .bool is])) h') : FinF R k h is := by
  refine ⟨f.nm, f.num, f.tx, f.ns, f.l, form_at hb, stn_at hb rfl rfl fun h' hb' f' _ => ?_⟩
  exact ⟨f.nm, f.num, f.tx, f.ns, f.l, form_at (f := f) hb', hR h' f'⟩
theorem extract1 (m : Nat) : ByteArray.extract (⟨#[101]⟩ : ByteArray) (((0 : Int) : Int).toNat) (((mn ((m : Nat) : Int) (1 : Int)) : Int).toNat) = cut1 m ∧ 0 ≤ mn (m : Int) 1 ∧ mn (m : Int) 1 ≤ 1 := by
  unfold cut1
  by_cases h : m = 0
  · subst h; exact ⟨by rw [if_pos rfl]; rfl, by decide, by decide⟩
  · have e : mn (m : Int) 1 = 1 := by unfold mn; split <;> omega
    rw [e, if_neg h]; exact ⟨rfl, by decide, by decide⟩
theorem extract3 (m : Nat) : ByteArray.extract (⟨#[101, 98, 98]⟩ : ByteArray) (((0 : Int) : Int).toNat) (((mn (mx ((m : Nat) : Int) (2 : Int)) (3 : Int)) : Int).toNat) = cut3 m ∧ 0 ≤ mn (mx (m : Int) 2) 3 ∧ mn (mx (m : Int) 2) 3 ≤ 3 := by
  unfold cut3
  by_cases h : m ≤ 2
  · have e : mn (mx (m : Int) 2) 3 = 2 := by unfold mn mx; split <;> split <;> omega
    rw [e, if_pos h]; exact ⟨rfl, by decide, by decide⟩
  · have e : mn (mx (m : Int) 2) 3 = 3 := by unfold mn mx; split <;> split <;> omega
    rw [e, if_neg h]; exact ⟨rfl, by decide, by decide⟩

set_option maxHeartbeats 2000000 in
set_option maxRecDepth 20000 in
theorem statement_ok {h : Heap} (x : NV) : Ret Try.prog 66 #[x.val] h (.tuple #[(stmtForm x.k x.m).1.val, .bool (stmtForm x.k x.m).2]) := by
  refine .mk fun R hR => c66 _ _ _ _ _ _ _ _ _ _ _ _ ?_
  refine al_intro fun h1 e1 g1 f1 s1 => al_intro fun h2 e2 g2 f2 s2 => ?_
  have gb := f2.get g1 (by simp)
  have F2 : Frm [] h h2 := f1.trans f2
  have hs1 : h.size < h1.size := by omega
  have fin : ∀ (h' : Heap) (F : FV) (is : Bool), h'[h1.size]? = some (.cells F.cells 58 (0, 0)) → Frm [h1.size] h2 h' → stmtForm x.k x.m = (F, is) → FinF R h1.size h' is := fun h' F is hb f e => by
    refine finF hb fun h'' f' => ?_
    have := hR h'' (F2.young (f.trans f') (by intro x hx; rw [List.mem_singleton.1 hx]; exact .inr (by omega)))
    rw [e] at this
    exact this
  refine ⟨x.k, by simp [cl_at gb], ?_⟩
  simp only [add_at, Nat.zero_add, cnd_if]
  by_cases k22 : x.k = 22
  · rw [if_pos (by simp [k22])]
    refine st1_at g2 (by simp) rfl fun h3 _ g3 f3 _ => ?_
    exact fin _ ⟨(⟨#[]⟩ : ByteArray), 0, false, false, (⟨#[100, 42, 100]⟩ : ByteArray)⟩ true (by simpa using g3) f3 (by simp [stmtForm, k22])
  rw [if_neg (by simp [k22])]
  by_cases k23 : x.k = 23
  · rw [if_pos (by simp [k23])]
    obtain ⟨q1, q2, q3⟩ := extract1 x.m
    refine ⟨x.b, x.m, x.d, by simp [cl_at gb], by decide, q2, q3, ?_⟩
    refine st1_at g2 (by simp) rfl fun h3 _ g3 f3 _ => ⟨⟨x.b, x.m, x.d, by rw [cl_at (f3.get gb (by simp; omega))]; rfl, rfl⟩, ?_⟩
    refine st1_at g3 (by simp) rfl fun h4 _ g4 f4 _ => ?_
    rw [q1] at g4
    exact fin _ ⟨(⟨#[110]⟩ : ByteArray), 0, false, false, (cut1 x.m)⟩ true (by simpa using g4) (f3.trans f4) (by simp [stmtForm, k23])
  rw [if_neg (by simp [k23])]
  refine ⟨fun vs h' => vs = [.bool ((x.k == 24) || (x.k == 34))] ∧ h' = h2, ?_, ?_⟩
  · by_cases k24 : x.k = 24
    · rw [if_pos (by simp [k24])]; simp [k24]
    rw [if_neg (by simp [k24])]
    simp [k24]
  rintro b _ h' ⟨e1, e2⟩
  rw [e2]; clear e2 h'
  simp only [List.cons.injEq, Value.bool.injEq, and_true] at e1
  by_cases kk24 : x.k = 24 ∨ x.k = 34
  · rw [if_pos (by rw [e1]; simpa [or_assoc] using kk24)]
    refine st1_at g2 (by simp) rfl fun h3 _ g3 f3 _ => ?_
    exact fin _ ⟨(⟨#[]⟩ : ByteArray), 0, false, false, (⟨#[101]⟩ : ByteArray)⟩ true (by simpa using g3) f3 (by rcases kk24 with hk | hk <;> simp [stmtForm, hk])
  rw [if_neg (by rw [e1]; simpa [or_assoc] using kk24)]
  clear e1 b
  have k24 : x.k ≠ 24 := fun e => kk24 (by simp [e])
  have k34 : x.k ≠ 34 := fun e => kk24 (by simp [e])
  by_cases k25 : x.k = 25
  · rw [if_pos (by simp [k25])]
    refine st1_at g2 (by simp) rfl fun h3 _ g3 f3 _ => ?_
    exact fin _ ⟨(⟨#[]⟩ : ByteArray), 0, false, false, (⟨#[42, 115]⟩ : ByteArray)⟩ true (by simpa using g3) f3 (by simp [stmtForm, k25])
  rw [if_neg (by simp [k25])]
  by_cases k26 : x.k = 26
  · rw [if_pos (by simp [k26])]
    obtain ⟨q1, q2, q3⟩ := extract3 x.m
    refine ⟨x.b, x.m, x.d, by simp [cl_at gb], by decide, q2, q3, ?_⟩
    refine st1_at g2 (by simp) rfl fun h3 _ g3 f3 _ => ?_
    rw [q1] at g3
    exact fin _ ⟨(⟨#[]⟩ : ByteArray), 0, false, false, (cut3 x.m)⟩ true (by simpa using g3) f3 (by simp [stmtForm, k26])
  rw [if_neg (by simp [k26])]
  by_cases k27 : x.k = 27
  · rw [if_pos (by simp [k27])]
    refine st1_at g2 (by simp) rfl fun h3 _ g3 f3 _ => ?_
    exact fin _ ⟨(⟨#[]⟩ : ByteArray), 0, false, false, (⟨#[101, 98]⟩ : ByteArray)⟩ true (by simpa using g3) f3 (by simp [stmtForm, k27])
  rw [if_neg (by simp [k27])]
  by_cases k28 : x.k = 28
  · rw [if_pos (by simp [k28])]
    refine st1_at g2 (by simp) rfl fun h3 _ g3 f3 _ => ?_
    exact fin _ ⟨(⟨#[]⟩ : ByteArray), 0, false, false, (⟨#[98, 101]⟩ : ByteArray)⟩ true (by simpa using g3) f3 (by simp [stmtForm, k28])
  rw [if_neg (by simp [k28])]
  by_cases k29 : x.k = 29
  · rw [if_pos (by simp [k29])]
    refine st1_at g2 (by simp) rfl fun h3 _ g3 f3 _ => ?_
    exact fin _ ⟨(⟨#[]⟩ : ByteArray), 0, false, false, (⟨#[118, 102, 102, 98]⟩ : ByteArray)⟩ true (by simpa using g3) f3 (by simp [stmtForm, k29])
  rw [if_neg (by simp [k29])]
  by_cases k30 : x.k = 30
  · rw [if_pos (by simp [k30])]
    refine st1_at g2 (by simp) rfl fun h3 _ g3 f3 _ => ?_
    exact fin _ ⟨(⟨#[]⟩ : ByteArray), 0, false, false, (⟨#[119, 101, 98]⟩ : ByteArray)⟩ true (by simpa using g3) f3 (by simp [stmtForm, k30])
  rw [if_neg (by simp [k30])]
  refine ⟨fun vs h' => vs = [.bool ((x.k == 31) || (x.k == 32))] ∧ h' = h2, ?_, ?_⟩
  · by_cases k31 : x.k = 31
    · rw [if_pos (by simp [k31])]; simp [k31]
    rw [if_neg (by simp [k31])]
    simp [k31]
  rintro b _ h' ⟨e1, e2⟩
  rw [e2]; clear e2 h'
  simp only [List.cons.injEq, Value.bool.injEq, and_true] at e1
  by_cases kk31 : x.k = 31 ∨ x.k = 32
  · rw [if_pos (by rw [e1]; simpa [or_assoc] using kk31)]
    refine st1_at g2 (by simp) rfl fun h3 _ g3 f3 _ => ?_
    exact fin _ ⟨(⟨#[109]⟩ : ByteArray), 0, false, false, (⟨#[]⟩ : ByteArray)⟩ true (by simpa using g3) f3 (by rcases kk31 with hk | hk <;> simp [stmtForm, hk])
  rw [if_neg (by rw [e1]; simpa [or_assoc] using kk31)]
  clear e1 b
  have k31 : x.k ≠ 31 := fun e => kk31 (by simp [e])
  have k32 : x.k ≠ 32 := fun e => kk31 (by simp [e])
  by_cases k33 : x.k = 33
  · rw [if_pos (by simp [k33])]
    obtain ⟨q1, q2, q3⟩ := extract1 x.m
    refine ⟨x.b, x.m, x.d, by simp [cl_at gb], by decide, q2, q3, ?_⟩
    refine st1_at g2 (by simp) rfl fun h3 _ g3 f3 _ => ?_
    rw [q1] at g3
    exact fin _ ⟨(⟨#[]⟩ : ByteArray), 0, false, false, (cut1 x.m)⟩ true (by simpa using g3) f3 (by simp [stmtForm, k33])
  rw [if_neg (by simp [k33])]
  by_cases k35 : x.k = 35
  · rw [if_pos (by simp [k35])]
    refine st1_at g2 (by simp) rfl fun h3 _ g3 f3 _ => ?_
    refine st1_at g3 (by simp) rfl fun h4 _ g4 f4 _ => ?_
    exact fin _ ⟨(⟨#[99]⟩ : ByteArray), 0, false, false, (⟨#[98, 99, 99]⟩ : ByteArray)⟩ true (by simpa using g4) (f3.trans f4) (by simp [stmtForm, k35])
  rw [if_neg (by simp [k35])]
  by_cases k36 : x.k = 36
  · rw [if_pos (by simp [k36])]
    refine st1_at g2 (by simp) rfl fun h3 _ g3 f3 _ => ?_
    exact fin _ ⟨(⟨#[]⟩ : ByteArray), 0, false, false, (⟨#[101, 42, 107]⟩ : ByteArray)⟩ true (by simpa using g3) f3 (by simp [stmtForm, k36])
  rw [if_neg (by simp [k36])]
  by_cases k37 : x.k = 37
  · rw [if_pos (by simp [k37])]
    refine st1_at g2 (by simp) rfl fun h3 _ g3 f3 _ => ?_
    exact fin _ ⟨(⟨#[]⟩ : ByteArray), 0, false, false, (⟨#[102, 42, 115]⟩ : ByteArray)⟩ true (by simpa using g3) f3 (by simp [stmtForm, k37])
  rw [if_neg (by simp [k37])]
  by_cases k38 : x.k = 38
  · rw [if_pos (by simp [k38])]
    refine st1_at g2 (by simp) rfl fun h3 _ g3 f3 _ => ?_
    refine st1_at g3 (by simp) rfl fun h4 _ g4 f4 _ => ?_
    exact fin _ ⟨(⟨#[110]⟩ : ByteArray), 0, false, false, (⟨#[115]⟩ : ByteArray)⟩ true (by simpa using g4) (f3.trans f4) (by simp [stmtForm, k38])
  rw [if_neg (by simp [k38])]
  by_cases k39 : x.k = 39
  · rw [if_pos (by simp [k39])]
    refine st1_at g2 (by simp) rfl fun h3 _ g3 f3 _ => ?_
    refine st1_at g3 (by simp) rfl fun h4 _ g4 f4 _ => ?_
    refine st1_at g4 (by simp) rfl fun h5 _ g5 f5 _ => ?_
    exact fin _ ⟨(⟨#[110]⟩ : ByteArray), 0, false, true, (⟨#[42, 120]⟩ : ByteArray)⟩ true (by simpa using g5) (f3.trans (f4.trans f5)) (by simp [stmtForm, k39])
  rw [if_neg (by simp [k39])]
  by_cases k41 : x.k = 41
  · rw [if_pos (by simp [k41])]
    refine st1_at g2 (by simp) rfl fun h3 _ g3 f3 _ => ?_
    exact fin _ ⟨(⟨#[]⟩ : ByteArray), 0, false, false, (⟨#[42, 120]⟩ : ByteArray)⟩ true (by simpa using g3) f3 (by simp [stmtForm, k41])
  rw [if_neg (by simp [k41])]
  exact fin h2 ⟨⟨#[]⟩, 0, false, false, ⟨#[]⟩⟩ false g2 (Frm.refl _ _) (by simp [stmtForm, k22, k23, k24, k34, k25, k26, k27, k28, k29, k30, k31, k32, k33, k35, k36, k37, k38, k39, k41])
set_option maxHeartbeats 2000000 in
set_option maxRecDepth 20000 in
theorem of_ok {h : Heap} (x : NV) : Ret Try.prog 44 #[x.val] h (.tuple #[(formOf x.k x.m).1.val, .bool (formOf x.k x.m).2]) := by
  refine .mk fun R hR => c44 _ _ _ _ _ _ _ _ _ _ _ _ ?_
  refine al_intro fun h1 e1 g1 f1 s1 => al_intro fun h2 e2 g2 f2 s2 => ?_
  have gb := f2.get g1 (by simp)
  have F2 : Frm [] h h2 := f1.trans f2
  have hs1 : h.size < h1.size := by omega
  have fin : ∀ (h' : Heap) (F : FV) (is : Bool), h'[h1.size]? = some (.cells F.cells 58 (0, 0)) → Frm [h1.size] h2 h' → formOf x.k x.m = (F, is) → FinF R h1.size h' is := fun h' F is hb f e => by
    refine finF hb fun h'' f' => ?_
    have := hR h'' (F2.young (f.trans f') (by intro x hx; rw [List.mem_singleton.1 hx]; exact .inr (by omega)))
    rw [e] at this
    exact this
  refine ⟨x.k, by simp [cl_at gb], ?_⟩
  simp only [add_at, Nat.zero_add, cnd_if]
  by_cases k1 : x.k = 1
  · rw [if_pos (by simp [k1])]
    refine st1_at g2 (by simp) rfl fun h3 _ g3 f3 _ => ?_
    exact fin _ ⟨(⟨#[]⟩ : ByteArray), 9007199254740991, false, false, (⟨#[]⟩ : ByteArray)⟩ true (by simpa using g3) f3 (by simp [formOf, exprForm, k1])
  rw [if_neg (by simp [k1])]
  by_cases k2 : x.k = 2
  · rw [if_pos (by simp [k2])]
    refine st1_at g2 (by simp) rfl fun h3 _ g3 f3 _ => ?_
    exact fin _ ⟨(⟨#[]⟩ : ByteArray), 0, true, false, (⟨#[]⟩ : ByteArray)⟩ true (by simpa using g3) f3 (by simp [formOf, exprForm, k2])
  rw [if_neg (by simp [k2])]
  by_cases k3 : x.k = 3
  · rw [if_pos (by simp [k3])]
    refine st1_at g2 (by simp) rfl fun h3 _ g3 f3 _ => ?_
    exact fin _ ⟨(⟨#[110]⟩ : ByteArray), 0, false, false, (⟨#[]⟩ : ByteArray)⟩ true (by simpa using g3) f3 (by simp [formOf, exprForm, k3])
  rw [if_neg (by simp [k3])]
  refine ⟨fun vs h' => vs = [.bool ((x.k == 4) || (x.k == 5) || (x.k == 40) || (x.k == 42))] ∧ h' = h2, ?_, ?_⟩
  · by_cases k4 : x.k = 4
    · rw [if_pos (by simp [k4])]; simp [k4]
    rw [if_neg (by simp [k4])]
    by_cases k5 : x.k = 5
    · rw [if_pos (by simp [k5])]; simp [k5]
    rw [if_neg (by simp [k5])]
    by_cases k40 : x.k = 40
    · rw [if_pos (by simp [k40])]; simp [k40]
    rw [if_neg (by simp [k40])]
    simp [k4, k5, k40]
  rintro b _ h' ⟨e1, e2⟩
  rw [e2]; clear e2 h'
  simp only [List.cons.injEq, Value.bool.injEq, and_true] at e1
  by_cases kk4 : x.k = 4 ∨ x.k = 5 ∨ x.k = 40 ∨ x.k = 42
  · rw [if_pos (by rw [e1]; simpa [or_assoc] using kk4)]
    exact fin _ ⟨(⟨#[]⟩ : ByteArray), 0, false, false, (⟨#[]⟩ : ByteArray)⟩ true (by simpa using g2) (Frm.refl _ _) (by rcases kk4 with hk | hk | hk | hk <;> simp [formOf, exprForm, hk])
  rw [if_neg (by rw [e1]; simpa [or_assoc] using kk4)]
  clear e1 b
  have k4 : x.k ≠ 4 := fun e => kk4 (by simp [e])
  have k5 : x.k ≠ 5 := fun e => kk4 (by simp [e])
  have k40 : x.k ≠ 40 := fun e => kk4 (by simp [e])
  have k42 : x.k ≠ 42 := fun e => kk4 (by simp [e])
  by_cases k6 : x.k = 6
  · rw [if_pos (by simp [k6])]
    refine st1_at g2 (by simp) rfl fun h3 _ g3 f3 _ => ?_
    exact fin _ ⟨(⟨#[]⟩ : ByteArray), 1, false, false, (⟨#[]⟩ : ByteArray)⟩ true (by simpa using g3) f3 (by simp [formOf, exprForm, k6])
  rw [if_neg (by simp [k6])]
  by_cases k7 : x.k = 7
  · rw [if_pos (by simp [k7])]
    refine st1_at g2 (by simp) rfl fun h3 _ g3 f3 _ => ?_
    exact fin _ ⟨(⟨#[]⟩ : ByteArray), 0, false, false, (⟨#[42, 101]⟩ : ByteArray)⟩ true (by simpa using g3) f3 (by simp [formOf, exprForm, k7])
  rw [if_neg (by simp [k7])]
  by_cases k8 : x.k = 8
  · rw [if_pos (by simp [k8])]
    refine st1_at g2 (by simp) rfl fun h3 _ g3 f3 _ => ?_
    exact fin _ ⟨(⟨#[]⟩ : ByteArray), 0, false, false, (⟨#[42, 112]⟩ : ByteArray)⟩ true (by simpa using g3) f3 (by simp [formOf, exprForm, k8])
  rw [if_neg (by simp [k8])]
  by_cases k9 : x.k = 9
  · rw [if_pos (by simp [k9])]
    refine st1_at g2 (by simp) rfl fun h3 _ g3 f3 _ => ?_
    refine st1_at g3 (by simp) rfl fun h4 _ g4 f4 _ => ?_
    exact fin _ ⟨(⟨#[]⟩ : ByteArray), 0, true, false, (⟨#[101]⟩ : ByteArray)⟩ true (by simpa using g4) (f3.trans f4) (by simp [formOf, exprForm, k9])
  rw [if_neg (by simp [k9])]
  by_cases k10 : x.k = 10
  · rw [if_pos (by simp [k10])]
    refine st1_at g2 (by simp) rfl fun h3 _ g3 f3 _ => ?_
    refine st1_at g3 (by simp) rfl fun h4 _ g4 f4 _ => ?_
    refine st1_at g4 (by simp) rfl fun h5 _ g5 f5 _ => ?_
    exact fin _ ⟨(⟨#[109]⟩ : ByteArray), 0, false, true, (⟨#[42, 120]⟩ : ByteArray)⟩ true (by simpa using g5) (f3.trans (f4.trans f5)) (by simp [formOf, exprForm, k10])
  rw [if_neg (by simp [k10])]
  by_cases k11 : x.k = 11
  · rw [if_pos (by simp [k11])]
    refine st1_at g2 (by simp) rfl fun h3 _ g3 f3 _ => ?_
    refine st1_at g3 (by simp) rfl fun h4 _ g4 f4 _ => ?_
    exact fin _ ⟨(⟨#[105]⟩ : ByteArray), 0, false, false, (⟨#[101]⟩ : ByteArray)⟩ true (by simpa using g4) (f3.trans f4) (by simp [formOf, exprForm, k11])
  rw [if_neg (by simp [k11])]
  refine ⟨fun vs h' => vs = [.bool ((x.k == 12) || (x.k == 21))] ∧ h' = h2, ?_, ?_⟩
  · by_cases k12 : x.k = 12
    · rw [if_pos (by simp [k12])]; simp [k12]
    rw [if_neg (by simp [k12])]
    simp [k12]
  rintro b _ h' ⟨e1, e2⟩
  rw [e2]; clear e2 h'
  simp only [List.cons.injEq, Value.bool.injEq, and_true] at e1
  by_cases kk12 : x.k = 12 ∨ x.k = 21
  · rw [if_pos (by rw [e1]; simpa [or_assoc] using kk12)]
    refine st1_at g2 (by simp) rfl fun h3 _ g3 f3 _ => ?_
    exact fin _ ⟨(⟨#[]⟩ : ByteArray), 0, false, false, (⟨#[101, 101]⟩ : ByteArray)⟩ true (by simpa using g3) f3 (by rcases kk12 with hk | hk <;> simp [formOf, exprForm, hk])
  rw [if_neg (by rw [e1]; simpa [or_assoc] using kk12)]
  clear e1 b
  have k12 : x.k ≠ 12 := fun e => kk12 (by simp [e])
  have k21 : x.k ≠ 21 := fun e => kk12 (by simp [e])
  refine ⟨fun vs h' => vs = [.bool ((x.k == 13) || (x.k == 14))] ∧ h' = h2, ?_, ?_⟩
  · by_cases k13 : x.k = 13
    · rw [if_pos (by simp [k13])]; simp [k13]
    rw [if_neg (by simp [k13])]
    simp [k13]
  rintro b _ h' ⟨e1, e2⟩
  rw [e2]; clear e2 h'
  simp only [List.cons.injEq, Value.bool.injEq, and_true] at e1
  by_cases kk13 : x.k = 13 ∨ x.k = 14
  · rw [if_pos (by rw [e1]; simpa [or_assoc] using kk13)]
    refine st1_at g2 (by simp) rfl fun h3 _ g3 f3 _ => ?_
    exact fin _ ⟨(⟨#[]⟩ : ByteArray), 0, false, false, (⟨#[101, 42, 101]⟩ : ByteArray)⟩ true (by simpa using g3) f3 (by rcases kk13 with hk | hk <;> simp [formOf, exprForm, hk])
  rw [if_neg (by rw [e1]; simpa [or_assoc] using kk13)]
  clear e1 b
  have k13 : x.k ≠ 13 := fun e => kk13 (by simp [e])
  have k14 : x.k ≠ 14 := fun e => kk13 (by simp [e])
  by_cases k15 : x.k = 15
  · rw [if_pos (by simp [k15])]
    refine st1_at g2 (by simp) rfl fun h3 _ g3 f3 _ => ?_
    refine st1_at g3 (by simp) rfl fun h4 _ g4 f4 _ => ?_
    exact fin _ ⟨(⟨#[32, 45, 32, 43, 32, 33, 32, 116, 121, 112, 101, 111, 102, 32, 100, 101, 108, 101, 116, 101, 32, 118, 111, 105, 100, 32]⟩ : ByteArray), 0, false, false, (⟨#[101]⟩ : ByteArray)⟩ true (by simpa using g4) (f3.trans f4) (by simp [formOf, exprForm, k15])
  rw [if_neg (by simp [k15])]
  by_cases k16 : x.k = 16
  · rw [if_pos (by simp [k16])]
    refine st1_at g2 (by simp) rfl fun h3 _ g3 f3 _ => ?_
    refine st1_at g3 (by simp) rfl fun h4 _ g4 f4 _ => ?_
    refine st1_at g4 (by simp) rfl fun h5 _ g5 f5 _ => ?_
    exact fin _ ⟨(⟨#[32, 43, 43, 32, 45, 45, 32]⟩ : ByteArray), 1, false, false, (⟨#[116]⟩ : ByteArray)⟩ true (by simpa using g5) (f3.trans (f4.trans f5)) (by simp [formOf, exprForm, k16])
  rw [if_neg (by simp [k16])]
  by_cases k17 : x.k = 17
  · rw [if_pos (by simp [k17])]
    refine st1_at g2 (by simp) rfl fun h3 _ g3 f3 _ => ?_
    refine st1_at g3 (by simp) rfl fun h4 _ g4 f4 _ => ?_
    exact fin _ ⟨(⟨#[32, 43, 32, 45, 32, 42, 32, 47, 32, 37, 32, 60, 32, 62, 32, 60, 61, 32, 62, 61, 32, 61, 61, 32, 33, 61, 32, 61, 61, 61, 32, 33, 61, 61, 32, 105, 110, 32, 105, 110, 115, 116, 97, 110, 99, 101, 111, 102, 32]⟩ : ByteArray), 0, false, false, (⟨#[101, 101]⟩ : ByteArray)⟩ true (by simpa using g4) (f3.trans f4) (by simp [formOf, exprForm, k17])
  rw [if_neg (by simp [k17])]
  by_cases k18 : x.k = 18
  · rw [if_pos (by simp [k18])]
    refine st1_at g2 (by simp) rfl fun h3 _ g3 f3 _ => ?_
    refine st1_at g3 (by simp) rfl fun h4 _ g4 f4 _ => ?_
    exact fin _ ⟨(⟨#[32, 38, 38, 32, 124, 124, 32]⟩ : ByteArray), 0, false, false, (⟨#[101, 101]⟩ : ByteArray)⟩ true (by simpa using g4) (f3.trans f4) (by simp [formOf, exprForm, k18])
  rw [if_neg (by simp [k18])]
  by_cases k19 : x.k = 19
  · rw [if_pos (by simp [k19])]
    refine st1_at g2 (by simp) rfl fun h3 _ g3 f3 _ => ?_
    exact fin _ ⟨(⟨#[]⟩ : ByteArray), 0, false, false, (⟨#[101, 101, 101]⟩ : ByteArray)⟩ true (by simpa using g3) f3 (by simp [formOf, exprForm, k19])
  rw [if_neg (by simp [k19])]
  by_cases k20 : x.k = 20
  · rw [if_pos (by simp [k20])]
    refine st1_at g2 (by simp) rfl fun h3 _ g3 f3 _ => ?_
    refine st1_at g3 (by simp) rfl fun h4 _ g4 f4 _ => ?_
    exact fin _ ⟨(⟨#[32, 61, 32, 43, 61, 32, 45, 61, 32, 42, 61, 32, 47, 61, 32, 37, 61, 32]⟩ : ByteArray), 0, false, false, (⟨#[116, 101]⟩ : ByteArray)⟩ true (by simpa using g4) (f3.trans f4) (by simp [formOf, exprForm, k20])
  rw [if_neg (by simp [k20])]
  have none : exprForm x.k = none := by simp [exprForm, k1, k2, k3, k4, k5, k40, k42, k6, k7, k8, k9, k10, k11, k12, k21, k13, k14, k15, k16, k17, k18, k19, k20]
  have e0 : formOf x.k x.m = stmtForm x.k x.m := by rw [formOf, none]
  refine ⟨x.k, x.nm, x.num, x.tx, x.a, x.n, x.c, x.b, x.m, x.d, by simp [cl_at gb], ?_⟩
  refine (statement_ok x).use fun h3 f3 => ?_
  have g3 := f3.get g2 (by simp)
  refine ⟨_, _, _, _, _, _, rfl, ?_⟩
  refine stn_at g3 rfl rfl fun h4 g4 f4 _ => ?_
  refine ⟨_, _, _, _, _, form_at (f := (stmtForm x.k x.m).1) g4, ?_⟩
  have := hR h4 ((F2.trans f3).young f4 (by intro x hx; rw [List.mem_singleton.1 hx]; exact .inr (by omega)))
  rw [e0] at this
  exact this
end Go.Proofs.Ytoldgeolocfmiaa
