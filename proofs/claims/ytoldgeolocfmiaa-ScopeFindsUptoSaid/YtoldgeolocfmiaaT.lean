import Derived.Test.YtoldgeolocfmiaaO
import Derived.ProofKit
import Derived.Deep.Slices
import Derived.WideKeyArgs
import Derived.Below
import Derived.ChangeSame
import Derived.SizedLaws
namespace Go.Proofs.Ytoldgeolocfmiaa.V
open Go Go.RowKit Go.WideShapes Go.ChangeShapes
/-! ## From what a row says of its arguments, to heaps, and back -/

theorem below_of {W W' : World} (hs : Same W W') (f : Frm [] W.heap W'.heap) : Below W.heap.size W W' := ⟨hs.1, hs.2.2.1, hs.2.1, f.1, fun k hk => f.2 k hk (by simp)⟩

section
variable {H : Type} {enc : TypeId × Value → H} {P : Program}

theorem stays_all (hl : laidOutB P = true) {W W' : World} (hb : Below W.heap.size W W') : ∀ {ts : List TypeId} {vs : List Value} {ds : List (DataW H)} {ps : List MemPlace}, (∀ t ∈ ts, P.readableRec t = true ∧ t < P.types.size) →
    DataW.TrodAll enc P W 0 (fun _ => true) true ts vs ds ps → (∀ p ∈ ps, p.block < W.heap.size) → ∀ sp : Nat → Bool, (∀ p ∈ ps, sp p.block = true) → DataW.TrodAll enc P W' 0 sp true ts vs ds ps
  | [], vs, ds, ps, _, h, _, sp, _ => by
    obtain ⟨rfl, rfl, rfl⟩ := trodAll_nil h
    exact rfl
  | t :: ts, vs, ds, ps, ht, h, hlt, sp, hsp => by
    obtain ⟨v, vs', d, ds', p, q, rfl, rfl, rfl, h1, h2⟩ := trodAll_cons h
    obtain ⟨hr, hrow⟩ := ht t List.mem_cons_self
    exact ⟨p, q, WideElems.Trod_stays hl hr hrow h1 (fun x hx => hb.same (hlt x (List.mem_append_left _ hx))) (fun x hx => hsp x (List.mem_append_left _ hx)),
      stays_all hl hb (fun t ht' => ht t (List.mem_cons_of_mem _ ht')) h2 (fun x hx => hlt x (List.mem_append_right _ hx)) sp (fun x hx => hsp x (List.mem_append_right _ hx)), rfl⟩

/-- A law's end: true; nothing that was there has turned. -/
theorem law_post {f : Func} {s : ChangeSpec} {apart fresh handsOn again : Bool} {W W' : World} {args : Array Value} {ds : List (DataW H)} {before : List MemPlace} {tb : TypeId}
    (hl : laidOutB P = true) (hts : ∀ t ∈ f.params.toList, P.readableRec t = true ∧ t < P.types.size) (hr : f.resultTypes = #[tb]) (htb : P.underlying tb = some .bool) (hv : s.vars = [])
    (hs : s.fn H (ds ++ []) = { results := [.lit (.bool true)], args := ds })
    (hW : DataW.Whole enc P f.params.toList s.vars apart W args.toList ds [] before) (hA : DataW.TrodAll enc P W 0 (fun _ => true) true f.params.toList args.toList ds before)
    (hsame : Same W W') (hf : Frm [] W.heap W'.heap) : s.post enc P f apart fresh handsOn again W args (.bool true) W' := by
  have hb := below_of hsame hf
  have hlt : ∀ p ∈ before, p.block < W.heap.size := fun p hp => hW.lt p hp
  have hold : ∀ p ∈ before, (fun b => decide (b < W.heap.size)) p.block = true := fun p hp => by simpa using hlt p hp
  have hargs : ∀ sp : Nat → Bool, (∀ p ∈ before, sp p.block = true) → DataW.TrodAll enc P W' 0 sp true f.params.toList args.toList (s.fn H (ds ++ [])).args before := fun sp hsp => by
    rw [hs]; exact stays_all hl hb hts hA hlt sp hsp
  have hres : ∀ (b : Nat) (sp : Nat → Bool) (hd : Bool), DataW.TrodAll enc P W' b sp hd f.resultTypes.toList ((Value.bool true).resultList f.resultTypes.size) (s.fn H (ds ++ [])).results [] := fun b sp hd => by
    rw [hs, hr]
    exact trodAll_mk1 ⟨1, by simp [Value.cells, DataW.trod, htb]⟩
  have hvars : ∀ sp : Nat → Bool, DataW.TrodVars enc P W' sp s.vars (s.fn H (ds ++ [])).vars [] := fun sp => by
    rw [hs, hv]; exact rfl
  refine ⟨ds, [], before, [], before, [], hW, hres _ _ _, hargs _ hold, hvars _, World.keptBut_mono (fun p hp => ⟨hp, ?_⟩) (hb.frame (· ∈ before)), fun _ => ?_⟩
  · exact Or.inr (.inl hp)
  · obtain ⟨_, _, _, _, _, hz, hn⟩ := hW
    refine ⟨ok_one hr rfl (okWide_bool_mk htb true), _, _, ([] ++ before) ++ [], ⟨[] ++ before, [], trodAll_append (hargs _ (fun _ _ => rfl)) (hres _ _ _), hvars _, rfl, ?_, ?_⟩, ?_⟩
    · intro b off hp
      have hin : MemPlace.cell b off ∈ before := by simpa using hp
      rw [hb.frozen (hlt _ hin)]
      exact hz b off hin
    · intro ha
      have := hn ha
      simpa using this
    · intro p hp _
      simpa using hp

variable {w : World} {base : Nat} {sp : Nat → Bool} {hd : Bool} {fuel : Nat} {cs : List Value} {x : DataW H × List MemPlace}


theorem okWide_slice {r : Reach} {b0 : Nat} {t e : TypeId} {v : Value} (ht : P.underlying t = some (.slice e)) (h : Value.okWide P w r b0 t v) : ∃ a l c, v = .slice a l c := by
  simp only [Value.okWide, ht, Cell.okWide] at h
  cases v <;> simp_all [Cell.ok]
theorem okWide_map {r : Reach} {b0 : Nat} {t k e : TypeId} {v : Value} (ht : P.underlying t = some (.map k e)) (h : Value.okWide P w r b0 t v) : ∃ m, v = .map m := by
  simp only [Value.okWide, ht, Cell.okWide] at h
  cases v <;> simp_all [Cell.ok]

theorem cl_here {h : Heap} {a : Addr} {v : Value} (hc : cl h a = some v) : a.spot = none ∧ a.block < h.size := by
  unfold cl at hc
  split at hc
  · rename_i hb
    split at hc
    · cases hc
    · rename_i hs
      exact ⟨by simpa using hs, lt_of_get hb⟩
  · cases hc

/-- A number's range. -/
def Fits (k : IntKind) (n : Int) : Prop := k.min ≤ n ∧ n ≤ k.max
theorem trod_int {t : TypeId} {k : IntKind} (ht : P.underlying t = some (.int k)) (h : DataW.trod enc P w base sp hd fuel t cs = some x) : ∃ n, cs = [.int k n] ∧ Fits k n := by
  obtain ⟨n, h1, _, h2⟩ := DataW.trod_int ht h
  refine ⟨n, h1, ?_⟩
  simpa [Lit.wf, Fits] using h2
/-- What is read is no larger than memory is. -/
def Sz (P : Program) (t : TypeId) (d : DataW H) : Prop := ∀ n ∈ DataW.weights P t d, n ≤ reachBytes
theorem weightsAll_mem {e : TypeId} : ∀ {ds : List (DataW H)} {d : DataW H}, d ∈ ds → ∀ n ∈ DataW.weights P e d, n ∈ DataW.weightsAll P e ds
  | [], _, h, _, _ => by cases h
  | a :: ds, d, h, n, hn => by
    simp only [DataW.weightsAll, List.mem_append]
    rcases List.mem_cons.1 h with rfl | h
    · exact .inl hn
    · exact .inr (weightsAll_mem h n hn)
theorem trod_str {t : TypeId} (ht : P.underlying t = some .string) (h : DataW.trod enc P w base sp hd fuel t cs = some x) (hz : Sz P t x.1) : ∃ s : ByteArray, cs = [.string s] ∧ s.size ≤ 140737488351232 := by
  obtain ⟨s, h1, h2, _⟩ := DataW.trod_string ht h
  refine ⟨s, h1, ?_⟩
  subst h2
  have := hz s.data.toList.length (by simp [DataW.weights])
  rw [Array.length_toList] at this
  exact this
/-- A struct that is read: its fields. -/
theorem trod_st {t : TypeId} {fs : Array Field} (ht : P.underlying t = some (.struct fs)) (h : DataW.trod enc P w base sp hd fuel t cs = some x) (hz : Sz P t x.1) :
    cs.length = P.cellsOf t ∧ ∃ m, m < fuel ∧ ∀ (i : Nat) (f : Field), fs[i]? = some f → ∃ y, DataW.trod enc P w base sp hd m f.type ((cs.drop f.offset).take (P.cellsOf f.type)) = some y ∧ Sz P f.type y.1 := by
  obtain ⟨xs, n, hf, hx, hl, hn, hall⟩ := DataW.trod_struct ht h
  refine ⟨hl, n, by omega, fun i f hi => ?_⟩
  have h1 := hall i f hi
  have hlt := (Array.getElem?_eq_some_iff.1 hi).1
  rw [List.getElem?_eq_getElem (by omega)] at h1
  refine ⟨_, h1, fun k hk => hz k ?_⟩
  subst hx
  simp only [DataW.weights, ht]
  exact DataW.weights_mem_each (j := i) (t := f.type) (by rw [List.getElem?_map]; simp [hi]) (by rw [List.getElem?_map, List.getElem?_eq_getElem (by omega)]; rfl) k hk
theorem trod_bool {t : TypeId} (ht : P.underlying t = some .bool) (h : DataW.trod enc P w base sp hd fuel t cs = some x) : ∃ b, cs = [.bool b] := by
  cases fuel with
  | zero => simp [DataW.trod] at h
  | succ n =>
    unfold DataW.trod at h
    rw [ht] at h
    split at h <;> simp_all

/-- A slice that is read: each element's cells, and what they are read as. -/
theorem trod_sl {t e : TypeId} (ht : P.underlying t = some (.slice e)) (h : DataW.trod enc P w base sp hd fuel t cs = some x) (hz : Sz P t x.1) :
    ∃ a l c, cs = [.slice a l c] ∧ l * P.bytesOf e ≤ 140737488351232 ∧ l ≤ maxLen ∧ l ≤ c ∧ ∃ m, m < fuel ∧ ∀ i, i < l → ∃ ad, a = some ad ∧ ∃ cs' y, cs'.length = P.cellsOf e ∧ (∀ j, j < P.cellsOf e → cl w.heap ((ad.add (i * P.cellsOf e)).add j) = cs'[j]?) ∧ DataW.trod enc P w base sp hd m e cs' = some y ∧ Sz P e y.1 := by
  rcases DataW.trod_slice ht h with ⟨h1, _⟩ | ⟨a, len, cap, elems, rest, n, hfu, rfl, hx, hb, hl, hm, hlen, hel, _⟩
  · exact ⟨none, 0, 0, h1, by omega, Nat.zero_le _, Nat.le_refl _, 0, by cases fuel with
      | zero => simp [DataW.trod] at h
      | succ n => omega, fun i hi => by omega⟩
  · have hb2 : len * P.bytesOf e ≤ 140737488351232 := by
      have h1 := hz ((elems.length + rest.length) * P.bytesOf e) (by subst hx; simp [DataW.weights, ht])
      refine Nat.le_trans (Nat.mul_le_mul_right _ ?_) h1
      omega
    refine ⟨some a, len, cap, rfl, hb2, by omega, hl, n, by omega, fun i hi => ⟨a, rfl, ?_⟩⟩
    have h1 := hel i hi
    rw [List.getElem?_eq_getElem (by omega)] at h1
    obtain ⟨cs', h2, h3⟩ := Option.bind_eq_some_iff.1 h1
    obtain ⟨_, h4, h5⟩ := World.cells?_some h2
    refine ⟨cs', _, h4, fun j hj => h5 j hj, h3, fun k hk => hz k ?_⟩
    subst hx
    simp only [DataW.weights, ht, List.mem_cons, List.mem_append]
    exact .inr (.inl (weightsAll_mem (List.mem_map.2 ⟨_, List.getElem_mem (by omega), rfl⟩) k hk))

def numOf : Value → Nat | .int _ n => n.toNat | _ => 0
/-- A slice of bytes that is read as B. -/
structure BytesAt (h : Heap) (a : Option Addr) (l : Nat) (B : ByteArray) : Prop where
  row : SlRow h a l (bv B)
  len : l ≤ 140737488351232
  here : 0 < l → ∀ ad, a = some ad → ad.spot = none ∧ ad.block < h.size
theorem BytesAt.frm {L : List Nat} {h h' : Heap} (f : Frm L h h') {a : Option Addr} {l : Nat} {B : ByteArray} (hb : BytesAt h a l B) (hn : 0 < l → ∀ ad, a = some ad → ad.block ∉ L) : BytesAt h' a l B := by
  refine ⟨⟨hb.row.1, ?_⟩, hb.len, fun hl ad e => ⟨(hb.here hl ad e).1, Nat.lt_of_lt_of_le (hb.here hl ad e).2 f.1⟩⟩
  rcases Nat.eq_zero_or_pos l with h0 | h0
  · exact .inl h0
  · rcases hb.row.2 with h1 | ⟨ad, e, hr⟩
    · exact .inl h1
    · exact .inr ⟨ad, e, hr.frm f (hn h0 ad e)⟩
theorem trod_bytes {t e : TypeId} (ht : P.underlying t = some (.slice e)) (he : P.underlying e = some (.int .u8)) (hc : P.cellsOf e = 1) (hby : P.bytesOf e = 1) (h : DataW.trod enc P w base sp hd fuel t cs = some x) (hz : Sz P t x.1) :
    ∃ a l c B, cs = [.slice a l c] ∧ BytesAt w.heap a l B := by
  obtain ⟨a, l, c, rfl, hl, _, _, m, _, hx⟩ := trod_sl ht h hz
  rw [hby, Nat.mul_one] at hl
  have hv : ∀ i, i < l → ∃ ad, a = some ad ∧ ∃ n : Int, cl w.heap (ad.add i) = some (.int .u8 n) ∧ 0 ≤ n ∧ n < 256 := by
    intro i hi
    obtain ⟨ad, e1, cs', y, h1, h2, h3, _⟩ := hx i hi
    obtain ⟨n, e2, h4⟩ := trod_int he h3
    subst e2
    have h5 := h2 0 (by omega)
    rw [hc, Nat.mul_one] at h5
    have hz0 : ∀ q : Addr, q.add 0 = q := fun q => by simp [Addr.add]
    rw [hz0] at h5
    refine ⟨ad, e1, n, h5, ?_⟩
    obtain ⟨h6, h7⟩ := h4
    have e3 : IntKind.u8.min = 0 := rfl
    have e4 : IntKind.u8.max = 255 := rfl
    omega
  refine ⟨a, l, c, ⟨((List.range l).map fun i => UInt8.ofNat (numOf ((a.bind fun ad => cl w.heap (ad.add i)).getD undef))).toArray⟩, rfl, ⟨?_, ?_⟩, hl, ?_⟩
  · rw [bv_length]; simp [ByteArray.size]
  · rcases Nat.eq_zero_or_pos l with h0 | h0
    · exact .inl h0
    · right
      obtain ⟨ad, e1, _⟩ := hv 0 h0
      refine ⟨ad, e1, fun j v hj => ?_⟩
      simp only [bv, List.map_map, List.getElem?_map, Option.map_eq_some_iff] at hj
      obtain ⟨k, hk, rfl⟩ := hj
      obtain ⟨hlt, rfl⟩ := List.getElem?_eq_some_iff.1 hk
      simp only [List.length_range] at hlt
      obtain ⟨ad', e1', n, h1, h2, h3⟩ := hv j hlt
      rw [e1] at e1'
      simp only [Option.some.injEq] at e1'
      subst e1'
      rw [h1]
      simp only [List.getElem_range, Function.comp, e1, Option.bind_some, h1, Option.getD_some, numOf]
      congr 2
      rw [UInt8.toNat_ofNat']
      omega
  · intro h0 ad e
    obtain ⟨ad', e1, n, h1, _⟩ := hv 0 h0
    rw [e] at e1
    simp only [Option.some.injEq] at e1
    subst e1
    have := cl_here h1
    have hz : ad.add 0 = ad := by simp [Addr.add]
    rw [hz] at this
    exact this
end
end Go.Proofs.Ytoldgeolocfmiaa.V
