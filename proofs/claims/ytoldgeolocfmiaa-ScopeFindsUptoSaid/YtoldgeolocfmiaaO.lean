import Derived.Test.YtoldgeolocfmiaaV
import Derived.Laws.BytesArg
import Derived.Laws.IdiomStrings
import Derived.Laws.CopyRow
import Derived.Laws.AppendOwn
import Derived.Laws.OwnMore
import Derived.Laws.IdiomRangeMap
import Derived.MapKept
namespace Go.Proofs.Ytoldgeolocfmiaa.V
open Go
/-! ## Heaps and their blocks -/

theorem lt_of_get {h : Heap} {b : Nat} {o : Obj} (hb : h[b]? = some o) : b < h.size := (Array.getElem?_eq_some_iff.1 hb).1
theorem add_at (b i k : Nat) : (⟨b, i, none⟩ : Addr).add k = ⟨b, i + k, none⟩ := by
  cases k <;> rfl
theorem cl_at {h : Heap} {b k : Nat} {c : Array Value} {t : TypeId} {f : Nat × Nat} (hb : h[b]? = some (.cells c t f)) : cl h ⟨b, k, none⟩ = c[k]? := by simp [cl, hb]
theorem fz_at {h : Heap} {b k : Nat} {c : Array Value} {t : TypeId} (hb : h[b]? = some (.cells c t (0, 0))) : fz h ⟨b, k, none⟩ = false := by simp [fz, hb]
theorem fz_at' {h : Heap} {b k : Nat} {c : Array Value} {t : TypeId} {f : Nat × Nat} (hb : h[b]? = some (.cells c t f)) (hk : k < f.1) : fz h ⟨b, k, none⟩ = false := by
  simp only [fz, hb, Bool.and_eq_false_iff, decide_eq_false_iff_not]; omega
theorem st_at {h : Heap} {b k : Nat} {c : Array Value} {t : TypeId} {f : Nat × Nat} (v : Value) (hb : h[b]? = some (.cells c t f)) :
    st h ⟨b, k, none⟩ v = h.setIfInBounds b (.cells (c.setIfInBounds k v) t f) := by
  apply Array.ext_getElem?
  intro i
  simp only [st, Array.getElem?_modify, Array.getElem?_setIfInBounds]
  by_cases e : b = i
  · subst e
    rw [if_pos rfl, if_pos rfl, if_pos (lt_of_get hb), hb]
    rfl
  · rw [if_neg e, if_neg e]

/-- Outside L the blocks that there were are as they were. -/
def Frm (L : List Nat) (h h' : Heap) : Prop := h.size ≤ h'.size ∧ ∀ b : Nat, b < h.size → b ∉ L → h'[b]? = h[b]?
theorem Frm.refl (L : List Nat) (h : Heap) : Frm L h h := ⟨Nat.le_refl _, fun _ _ _ => rfl⟩
theorem Frm.mono {L L' : List Nat} {h h' : Heap} (f : Frm L h h') (hs : ∀ b ∈ L, b ∈ L') : Frm L' h h' := ⟨f.1, fun b hb hn => f.2 b hb fun hm => hn (hs b hm)⟩
theorem Frm.trans {L : List Nat} {a b c : Heap} (f : Frm L a b) (g : Frm L b c) : Frm L a c :=
  ⟨Nat.le_trans f.1 g.1, fun x hx hn => (g.2 x (Nat.lt_of_lt_of_le hx f.1) hn).trans (f.2 x hx hn)⟩
theorem Frm.push (L : List Nat) (h : Heap) (o : Obj) : Frm L h (h.push o) := ⟨by simp, fun b hb _ => by rw [Array.getElem?_push, if_neg (by omega)]⟩
theorem Frm.set {L : List Nat} {h : Heap} {b : Nat} (o : Obj) (hb : b ∈ L) : Frm L h (h.setIfInBounds b o) :=
  ⟨by simp, fun x _ hn => by
    rw [Array.getElem?_setIfInBounds_ne]
    intro e; subst e; exact hn hb⟩
/-- What is made since counts for nothing. -/
theorem Frm.young {L : List Nat} {a b c : Heap} {L' : List Nat} (f : Frm L a b) (g : Frm L' b c) (hl : ∀ x ∈ L', x ∈ L ∨ a.size ≤ x) : Frm L a c :=
  ⟨Nat.le_trans f.1 g.1, fun x hx hn => (g.2 x (Nat.lt_of_lt_of_le hx f.1) (fun hm => (hl x hm).elim hn fun h => by omega)).trans (f.2 x hx hn)⟩
theorem Frm.get {L : List Nat} {h h' : Heap} (f : Frm L h h') {b : Nat} {o : Obj} (hb : h[b]? = some o) (hn : b ∉ L) : h'[b]? = some o :=
  (f.2 b (lt_of_get hb) hn).trans hb
theorem Frm.cl {L : List Nat} {h h' : Heap} (f : Frm L h h') {a : Addr} {v : Value} (hc : cl h a = some v) (hn : a.block ∉ L) : cl h' a = some v := by
  have hb : a.block < h.size := by
    rcases Nat.lt_or_ge a.block h.size with hl | hl
    · exact hl
    · rw [V.cl, Array.getElem?_eq_none hl] at hc; cases hc
  rw [V.cl, f.2 _ hb hn]; exact hc
theorem Frm.of_pre {h h' : Heap} (p : Pre h h') (L : List Nat) : Frm L h h' := ⟨p.size, fun b hb _ => p b hb⟩
theorem Frm.pre {h h' : Heap} (f : Frm [] h h') : Pre h h' := fun b hb => f.2 b hb (by simp)

theorem get_set_ne {h : Heap} {a b : Nat} {o p : Obj} (hb : h[b]? = some p) (hn : a ≠ b) : (h.setIfInBounds a o)[b]? = some p := by
  rw [Array.getElem?_setIfInBounds_ne hn]; exact hb
theorem get_set {h : Heap} {b : Nat} {o : Obj} (hb : b < h.size) : (h.setIfInBounds b o)[b]? = some o := by simp [hb]
theorem get_push {h : Heap} {b : Nat} {o p : Obj} (hb : h[b]? = some p) : (h.push o)[b]? = some p := by
  rw [Array.getElem?_push, if_neg (by have := lt_of_get hb; omega)]; exact hb
theorem get_push_new (h : Heap) (o : Obj) : (h.push o)[h.size]? = some o := by simp

/-! ## Rows: cells one behind another -/

def Row (h : Heap) (a : Addr) (xs : List Value) : Prop := ∀ j v, xs[j]? = some v → cl h (a.add j) = some v
/-- What a slice reads: n elements of one cell each. -/
def SlRow (h : Heap) (a : Option Addr) (n : Nat) (xs : List Value) : Prop := xs.length = n ∧ (n = 0 ∨ ∃ ad, a = some ad ∧ Row h ad xs)

theorem Row.frm {L : List Nat} {h h' : Heap} (f : Frm L h h') {a : Addr} {xs : List Value} (r : Row h a xs) (hn : a.block ∉ L) : Row h' a xs :=
  fun j v hj => f.cl (r j v hj) (by cases j <;> exact hn)
theorem add_block (a : Addr) (j : Nat) : (a.add j).block = a.block := by cases j <;> rfl

def bv (s : ByteArray) : List Value := s.data.toList.map fun b => .int .u8 b.toNat
theorem bv_length (s : ByteArray) : (bv s).length = s.size := by simp only [bv, List.length_map, Array.length_toList]; rfl

theorem cnd_if (b : Bool) (X Y : Prop) : cnd b X Y = if b = true then X else Y := by cases b <;> rfl
theorem onSome_some' {α : Type} (a : α) (F : α → Prop) : onSome (some a) F = F a := rfl
theorem in64 {n : Int} (h1 : -9223372036854775808 ≤ n) (h2 : n ≤ 9223372036854775807) : In64 n := ⟨h1, h2⟩
/-- A store in a block that is known. -/
theorem st1_at {h : Heap} {b k : Nat} {c : Array Value} {t : TypeId} {v : Value} {K : Heap → Prop} (hb : h[b]? = some (.cells c t (0, 0))) (hk : k < c.size) (hv : nonAgg v = true)
    (hK : ∀ h', h' = h.setIfInBounds b (.cells (c.setIfInBounds k v) t (0, 0)) → h'[b]? = some (.cells (c.setIfInBounds k v) t (0, 0)) → Frm [b] h h' → h'.size = h.size → K h') : St1 h ⟨b, k, none⟩ v K := by
  refine (show chk (nonAgg v) _ from ?_)
  rw [hv]
  refine ⟨⟨c[k], by rw [cl_at hb, Array.getElem?_eq_getElem hk]⟩, fz_at hb, fun h' e => ?_⟩
  rw [st_at v hb] at e
  subst e
  exact hK _ rfl (get_set (lt_of_get hb)) (Frm.set _ (by simp)) (by simp)
theorem al_intro {h : Heap} {o : Obj} {K : Nat → Heap → Prop} (hK : ∀ h', h' = h.push o → h'[h.size]? = some o → Frm [] h h' → h'.size = h.size + 1 → K h.size h') : Al h o K := by
  rintro b h' rfl rfl
  exact hK _ rfl (get_push_new _ _) (Frm.push _ _ _) (by simp)
theorem endH_ret {K : Value → Heap → Prop} {Q : List PanicEntry → Heap → Prop} {v : Value} {h : Heap} (hk : K v h) : endH K Q (.returned v) h := hk
/-- A call by its contract, of one result. -/
theorem CallsH.ret {P : Program} {f : FuncId} {args : Array Value} {h : Heap} {R : Value → Heap → Prop} {K : Value → Heap → Prop} {Q : List PanicEntry → Heap → Prop}
    (hc : CallsH P f args h (fun e h' => ∃ v, e = .returned v ∧ R v h')) (hk : ∀ v h', R v h' → K v h') : CallsH P f args h (endH K Q) :=
  hc.mono fun e h' ⟨v, he, hr⟩ => he ▸ hk v h' hr
/-! ## Conversions, copies, appends -/

theorem ba_ext {s t : ByteArray} (h : s.data = t.data) : s = t := by cases s; cases t; simp_all

section
variable {P : Program}

theorem kept_of {h h' : Heap} {L : List Nat} (f : Frm L h h') (hl : ∀ b ∈ L, ∀ c, h[b]? ≠ some (.deferred c)) : Kept h h' :=
  ⟨f.1, fun r hr => by
    by_cases hm : r ∈ L
    · exact absurd hr (hl r hm _)
    · rw [f.2 r (lt_of_get hr) hm]; exact hr⟩

theorem bv_back (s : ByteArray) : strOfNums (s.data.toList.map fun b => (b.toNat : Int)) = s := by
  apply ba_ext
  apply Array.ext'
  rw [strOfNums_data, List.map_map]
  conv => rhs; rw [← List.map_id s.data.toList]
  refine List.map_congr_left fun b _ => ?_
  simp

theorem bv_get {s : ByteArray} {i : Nat} (hi : i < s.size) : (bv s)[i]? = some (.int .u8 ((s.data.toList.map fun b => (b.toNat : Int)).getD i 0)) := by
  have hi' : i < s.data.toList.length := by rw [Array.length_toList]; exact hi
  simp only [bv, List.getElem?_map, List.getD_eq_getElem?_getD]
  rw [List.getElem?_eq_getElem hi']
  rfl

/-- string(b). -/
theorem conv_bytes_string {src dst e : TypeId} (hs : P.underlying src = some (.slice e)) (he : P.underlying e = some (.int .u8)) (hd : P.underlying dst = some .string)
    {h : Heap} {a : Option Addr} {n c : Nat} {s : ByteArray} (hr : SlRow h a n (bv s)) (hsp : ∀ ad, a = some ad → ad.spot = none) {K : Value → Heap → Prop} (hk : K (.string s) h) :
    RunH P (convert src dst (.slice a n c)) h K := by
  intro w hw
  refine ⟨.string s, w, ?_, Same.refl w, hw ▸ hk⟩
  obtain ⟨hn, hor⟩ := hr
  rw [bv_length] at hn
  cases a with
  | none =>
    have h0 : n = 0 := by
      rcases hor with h | ⟨ad, h, _⟩
      · exact h
      · cases h
    rw [run_convert_bytes_nil w src e hs he n c dst hd]
    congr 2
    apply ba_ext
    apply Array.ext'
    have : s.data.toList.length = 0 := by rw [Array.length_toList]; show s.size = 0; omega
    rw [List.eq_nil_of_length_eq_zero this]
    rfl
  | some ad =>
    obtain ⟨b, o, sp⟩ := ad
    have : sp = none := hsp _ rfl
    subst this
    rw [run_convert_bytes_arg w src e hs he b o n c (s.data.toList.map fun b => (b.toNat : Int)) (by rw [List.length_map, Array.length_toList]; exact hn) ?_ dst hd, bv_back]
    intro i hi
    rcases hor with h0 | ⟨ad, h, hrow⟩
    · omega
    · cases h
      have := hrow i _ (bv_get (s := s) (by omega))
      rw [add_at] at this
      rw [cell_cl, hw]
      exact this

/-- []byte(s): a new array. -/
theorem conv_string_bytes {src dst e : TypeId} (hs : P.underlying src = some .string) (hd : P.underlying dst = some (.slice e)) (he : P.underlying e = some (.int .u8))
    {h : Heap} {s : ByteArray} {K : Value → Heap → Prop}
    (hk : ∀ c, s.size ≤ c → K (.slice (some ⟨h.size, 0, none⟩) s.size c) (h.push (.cells (bytesRow s c) e ((bytesRow s c).size, (bytesRow s c).size + 1)))) :
    RunH P (convert src dst (.string s)) h K := by
  intro w hw
  subst hw
  exact ⟨_, _, run_bytes_of_string w src dst e s hs hd he, ⟨rfl, rfl, rfl, Kept.push _ _⟩, hk _ (grownCap_ge w _ _ _)⟩

theorem bytesRow_row (s : ByteArray) (c : Nat) (e : TypeId) (f : Nat × Nat) (h : Heap) (b : Nat) (hb : h[b]? = some (.cells (bytesRow s c) e f)) : Row h ⟨b, 0, none⟩ (bv s) := by
  intro j v hj
  rw [add_at, cl_at hb]
  have hjs : j < (bv s).length := (List.getElem?_eq_some_iff.1 hj).1
  rw [bv_length] at hjs
  rw [show 0 + j = j by omega, bytesRow_at s c j hjs]
  simp only [bv, List.getElem?_map] at hj
  have hjl : j < s.data.toList.length := by rw [Array.length_toList]; exact hjs
  rw [List.getElem?_eq_getElem hjl] at hj
  simp only [Option.map_some, Option.some.injEq] at hj
  rw [← hj]
  simp

/-- A row of the function's own: an array from its start, all of it at hand. -/
def Own (h : Heap) (base : Nat) (e : TypeId) (size : Nat) (v : Value) (n : Nat) (xs : List Value) : Prop :=
  xs.length = n * size ∧
  ((v = .slice none 0 0 ∧ n = 0) ∨
   ∃ g cap cur, v = .slice (some ⟨g, 0, none⟩) n cap ∧ base ≤ g ∧ h[g]? = some (.cells cur e (0, 0)) ∧ n ≤ cap ∧ cap ≤ maxLen ∧ cur.size = cap * size ∧ cur.toList.take (n * size) = xs)
theorem own_iff {w : World} {base : Nat} {e : TypeId} {size : Nat} {v : Value} {n : Nat} {xs : List Value} : w.ownsRow base e size v n xs ↔ Own w.heap base e size v n xs := Iff.rfl

def blockOf (v : Value) : List Nat := v.ownBlock.toList

theorem append_own {base : Nat} {t ty e : TypeId} {i : TypeInfo} {z : Value} {size bytes : Nat} (ht : P.underlying t = some (.slice e)) (hi : P.info? e = some i) (hz : i.zero = some z)
    (hsize : i.size = size) (hby : i.bytes = bytes) (hzs : z.cells.size = size) (hsz : 0 < size)
    {h : Heap} {v : Value} {n : Nat} {xs : List Value} (hown : Own h base e size v n xs)
    {a : Addr} {m c : Nat} {news : List Value} (hl : news.length = m * size) (hnews : Row h a news) (h1 : ∀ u ∈ news, u.oneCell' = true)
    (hbytes : (n + m) * bytes ≤ 140737488355328) (h63 : n + m ≤ maxLen) (hbase : base ≤ h.size) {K : Value → Heap → Prop}
    (hk : ∀ v' h', Own h' base e size v' (n + m) (xs ++ news) → Frm (blockOf v) h h' → (∀ b, v'.ownBlock = some b → v.ownBlock = some b ∨ h.size ≤ b) → K v' h') :
    RunH P (Builtin.append_ #[t, t] ty #[v, .slice (some a) m c]) h K := by
  intro w hw
  subst hw
  have fin : ∀ (w' : World), w.grownBy w' v.ownBlock → Same w w' ∧ Frm (blockOf v) w.heap w'.heap := by
    intro w' hg
    have hf : Frm (blockOf v) w.heap w'.heap := ⟨hg.size, fun b hb hn => hg.block b hb (fun e => hn (by simp [blockOf, ← e]))⟩
    refine ⟨⟨hg.os, hg.output, hg.tape, kept_of hf ?_⟩, hf⟩
    intro b hb c hc
    simp only [blockOf, Option.mem_toList] at hb
    rcases hown.2 with ⟨rfl, _⟩ | ⟨g, cap, cur, rfl, _, hg', _⟩
    · simp [Value.ownBlock] at hb
    · simp only [Value.ownBlock, Option.some.injEq] at hb
      subst hb
      rw [hg'] at hc; cases hc
  by_cases hfit : ∃ g cap, v = .slice (some ⟨g, 0, none⟩) n cap ∧ n + m ≤ cap
  · obtain ⟨g, cap, rfl, hroom⟩ := hfit
    obtain ⟨w', hr, ho, hg⟩ := run_append_fits (P := P) w base t ty e i size ht hi hsize g n cap xs hown a m c news hl hnews h1 hroom
    obtain ⟨hs, hf⟩ := fin w' hg
    exact ⟨_, w', hr, hs, hk _ _ ho hf fun b hb => .inl hb⟩
  · obtain ⟨v', w', hr, ho, hg, _⟩ := run_append_own (P := P) w base t ty e i z size bytes ht hi hz hsize hby hzs hsz v n xs hown a m c news hl hnews h1 h63 hbytes hbase
    obtain ⟨hs, hf⟩ := fin w' hg
    refine ⟨v', w', hr, hs, hk _ _ ho hf ?_⟩
    intro b hb
    -- it did not fit: it is new
    rcases hown.2 with ⟨rfl, rfl⟩ | ⟨g, cap, cur, rfl, hbg, hgc, hnc, hcm, hcs, htake⟩
    · right
      have hx : xs = [] := List.eq_nil_of_length_eq_zero (by simpa using hown.1)
      by_cases hm : m = 0
      · subst hm
        have hn : news = [] := List.eq_nil_of_length_eq_zero (by simpa using hl)
        subst hn
        have : (Builtin.append_ #[t, t] ty #[.slice none 0 0, .slice (some a) 0 c]).run P w = .ok (.slice none 0 0) w := by
          simp [Builtin.append_, run_underlying ht, sizeOf, typeInfo, hi, Builtin.lenOf, Builtin.firstCells, loadCells, loadCellsFrom]
        rw [this] at hr
        simp only [Result.ok.injEq] at hr
        rw [← hr.1] at hb
        simp [Value.ownBlock] at hb
      · have := run_append_nil (P := P) w t ty e i z ht hi hz a m c news (by rw [hl, hsize]) hnews (by omega) (by simp only [maxLen] at h63; omega) (by rw [hby]; simp only [Nat.zero_add] at hbytes; omega)
        rw [this] at hr
        simp only [Result.ok.injEq] at hr
        rw [← hr.1] at hb
        simp only [Value.ownBlock, Option.some.injEq] at hb
        omega
    · right
      have hno : cap < n + m := by
        rcases Nat.lt_or_ge cap (n + m) with h | h
        · exact h
        · exact absurd ⟨g, cap, rfl, h⟩ hfit
      have holds : ∀ j u, xs[j]? = some u → w.cell? ((⟨g, 0, none⟩ : Addr).add j) = some u := World.ownsRow.cells hown (g := g) rfl
      have := run_append_grow (P := P) w t ty e i z ht hi hz ⟨g, 0, none⟩ n cap xs (by rw [hown.1, hsize]) holds a m c news (by rw [hl, hsize]) hnews hno (by simp only [maxLen] at h63; omega)
        (by rw [hby]; exact growslice_fits (by omega) hbytes)
      rw [this] at hr
      simp only [Result.ok.injEq] at hr
      rw [← hr.1] at hb
      simp only [Value.ownBlock, Option.some.injEq] at hb
      omega

/-- append(v, src...), whatever the source reads. -/
theorem append_sl {base : Nat} {t ty e : TypeId} {i : TypeInfo} {z : Value} {size bytes : Nat} (ht : P.underlying t = some (.slice e)) (hi : P.info? e = some i) (hz : i.zero = some z)
    (hsize : i.size = size) (hby : i.bytes = bytes) (hzs : z.cells.size = size) (hsz : 0 < size)
    {h : Heap} {v : Value} {n : Nat} {xs : List Value} (hown : Own h base e size v n xs)
    {a : Option Addr} {m c : Nat} {news : List Value} (hl : news.length = m * size) (hnews : m = 0 ∨ ∃ ad, a = some ad ∧ Row h ad news) (h1 : ∀ u ∈ news, u.oneCell' = true)
    (hbytes : (n + m) * bytes ≤ 140737488355328) (h63 : n + m ≤ maxLen) (hbase : base ≤ h.size) {K : Value → Heap → Prop}
    (hk : ∀ v' h', Own h' base e size v' (n + m) (xs ++ news) → Frm (blockOf v) h h' → (∀ b, v'.ownBlock = some b → v.ownBlock = some b ∨ h.size ≤ b) → K v' h') :
    RunH P (Builtin.append_ #[t, t] ty #[v, .slice a m c]) h K := by
  rcases a with _ | ad
  · have hm : m = 0 := by
      rcases hnews with h | ⟨_, h, _⟩
      · exact h
      · cases h
    subst hm
    have hn : news = [] := List.eq_nil_of_length_eq_zero (by simpa using hl)
    subst hn
    intro w hw
    subst hw
    have hr : (Builtin.append_ #[t, t] ty #[v, .slice none 0 c]).run P w = .ok v w := by
      rcases hown.2 with ⟨rfl, rfl⟩ | ⟨g, cap, cur, rfl, _, _, hnc, _⟩
      · simp [Builtin.append_, run_underlying ht, sizeOf, typeInfo, hi, Builtin.lenOf, Builtin.firstCells]
      · simp [Builtin.append_, run_underlying ht, sizeOf, typeInfo, hi, Builtin.lenOf, Builtin.firstCells, hnc, storeCells]
    refine ⟨v, w, hr, Same.refl w, hk v w.heap ?_ (Frm.refl _ _) fun b hb => .inl hb⟩
    simpa using hown
  · refine append_own ht hi hz hsize hby hzs hsz hown hl ?_ h1 hbytes h63 hbase hk
    rcases hnews with h0 | ⟨ad', h, hr⟩
    · subst h0
      have hn : news = [] := List.eq_nil_of_length_eq_zero (by simpa using hl)
      subst hn
      intro j v hj; simp at hj
    · cases h; exact hr

end
/-! ## Maps -/

section
variable {α β : Type} [DecidableEq α]

/-- What a map's entries say, as pairs. -/
def KV (K : α → Value) (V : β → Value) (es : List MapEntry) (kvs : List (α × β)) : Prop := es.map (fun e => (e.key, e.val)) = kvs.map fun p => (K p.1, V p.2)

def get? : List (α × β) → α → Option β
  | [], _ => none
  | (k, v) :: r, x => if k = x then some v else get? r x

/-- A map at a block: what it holds, as a function. -/
def MapAt (h : Heap) (m : Nat) (K : α → Value) (V : β → Value) (f : α → Option β) : Prop :=
  ∃ (es : Array MapEntry) (clock : Nat) (kvs : List (α × β)), h[m]? = some (.map es clock) ∧ KV K V es.toList kvs ∧ (kvs.map (·.1)).Nodup ∧
    (∀ x ∈ es.toList, x.born < clock) ∧ (es.toList.map (·.born)).Nodup ∧ ∀ k, f k = get? kvs k

theorem MapAt.frm {L : List Nat} {h h' : Heap} (f : Frm L h h') {m : Nat} {K : α → Value} {V : β → Value} {g : α → Option β} (hm : MapAt h m K V g) (hn : m ∉ L) : MapAt h' m K V g := by
  obtain ⟨es, c, kvs, h1, h2⟩ := hm
  exact ⟨es, c, kvs, f.get h1 hn, h2⟩
theorem MapAt.lt {h : Heap} {m : Nat} {K : α → Value} {V : β → Value} {g : α → Option β} (hm : MapAt h m K V g) : m < h.size := by
  obtain ⟨es, c, kvs, h1, _⟩ := hm
  exact lt_of_get h1
theorem MapAt.is {h : Heap} {m : Nat} {K : α → Value} {V : β → Value} {g : α → Option β} (hm : MapAt h m K V g) : ∃ es c, h[m]? = some (.map es c) := by
  obtain ⟨es, c, kvs, h1, _⟩ := hm
  exact ⟨es, c, h1⟩
theorem MapAt.new (h : Heap) (K : α → Value) (V : β → Value) : MapAt (h.push (.map #[] 0)) h.size K V fun _ => none :=
  ⟨#[], 0, [], by simp, by simp [KV], by simp, by simp, by simp, fun k => rfl⟩
theorem MapAt.empty {h : Heap} {m c : Nat} {K : α → Value} {V : β → Value} (hb : h[m]? = some (.map #[] c)) : MapAt h m K V fun _ => none :=
  ⟨#[], c, [], hb, by simp [KV], by simp, by simp, by simp, fun k => rfl⟩
theorem MapAt.congr {h : Heap} {m : Nat} {K : α → Value} {V : β → Value} {f g : α → Option β} (hm : MapAt h m K V f) (he : ∀ k, g k = f k) : MapAt h m K V g := by
  obtain ⟨es, c, kvs, h1, h2, h3, h4, h5, h6⟩ := hm
  exact ⟨es, c, kvs, h1, h2, h3, h4, h5, fun k => (he k).trans (h6 k)⟩

/-- The keys are told apart at once. -/
structure KeyOf (P : Program) (kt : TypeId) (K : α → Value) where
  d : TypeDesc
  under : P.underlying kt = some d
  key : ∀ a, MapKept.IsKey d (K a)
  same : ∀ a b, Instr.sameNow d (K a) (K b) = some (decide (a = b))
  bits : ∀ a, Instr.sameBits 10000 (K a) (K a) = true

def keyInt {P : Program} {kt : TypeId} (hk : P.underlying kt = some (.int .i64)) : KeyOf P kt (fun n : Int => Value.int .i64 n) where
  d := .int .i64
  under := hk
  key := fun a => rfl
  same := fun a b => by
    simp only [Instr.sameNow, if_true]
    congr 1
  bits := fun a => by simp [Instr.sameBits]

def keyStr {P : Program} {kt : TypeId} (hk : P.underlying kt = some .string) : KeyOf P kt (fun s : ByteArray => Value.string s) where
  d := .string
  under := hk
  key := fun a => trivial
  same := fun a b => by
    simp only [Instr.sameNow]
    congr 1
    rw [Bool.eq_iff_iff, MapKept.bytes_beq]; simp
  bits := fun a => by simp only [Instr.sameBits]; rw [MapKept.bytes_beq]

/-- Where a key lies. -/
def find? : List (α × β) → α → Nat → Option (Nat × β)
  | [], _, _ => none
  | (k, v) :: r, x, i => if k = x then some (i, v) else find? r x (i + 1)

theorem find_get : ∀ (kvs : List (α × β)) (x : α) (i : Nat), (find? kvs x i).map (·.2) = get? kvs x
  | [], _, _ => rfl
  | (k, v) :: r, x, i => by
    simp only [find?, get?]
    split
    · rfl
    · exact find_get r x (i + 1)

variable {P : Program} {kt : TypeId} {K : α → Value} {V : β → Value}

theorem findNow_kv (k : KeyOf P kt K) (x : α) : ∀ (es : List MapEntry) (kvs : List (α × β)) (i : Nat), KV K V es kvs →
    Instr.findNow k.d (K x) es i = some ((find? kvs x i).map fun p => (p.1, V p.2))
  | [], kvs, i, h => by
    have : kvs = [] := by
      have := congrArg List.length h
      simpa using this.symm
    subst this
    rfl
  | e :: es, [], i, h => by
    have := congrArg List.length h
    simp at this
  | e :: es, (y, v) :: r, i, h => by
    simp only [KV, List.map_cons, List.cons.injEq, Prod.mk.injEq] at h
    obtain ⟨⟨hk, hv⟩, hr⟩ := h
    simp only [Instr.findNow, hk, k.same, find?]
    by_cases e' : y = x
    · subst e'
      simp [hv]
    · have : ¬ x = y := fun h => e' h.symm
      simp only [this, decide_false, if_neg e']
      exact findNow_kv k x es r (i + 1) hr

theorem lookup_run {mt et : TypeId} {h : Heap} {m : Nat} {f : α → Option β} {z : Value} (k : KeyOf P kt K) (hmt : P.underlying mt = some (.map kt et)) (hz : (P.info? et).bind (·.zero) = some z)
    (hm : MapAt h m K V f) (x : α) (ok : Bool) {G : Value → Prop}
    (hk : G (if ok then .tuple #[((f x).map V).getD z, .bool (f x).isSome] else ((f x).map V).getD z)) :
    ReadH P (Instr.lookup mt (.map (some m)) (K x) ok) h G := by
  obtain ⟨es, clock, kvs, hb, hkv, hnd, hbl, hbn, hf⟩ := hm
  intro w hw
  subst hw
  refine ⟨_, ?_, hk⟩
  have hfn := MapKept.run_findKey (w := w) k.under (findNow_kv k x es.toList kvs 0 hkv)
  have hck := MapKept.run_checkKey (w := w) k.under (k.key x) es.isEmpty 9999
  obtain ⟨i, hi, hiz⟩ : ∃ i, P.info? et = some i ∧ i.zero = some z := by
    cases hi : P.info? et with
    | none => rw [hi] at hz; cases hz
    | some i => rw [hi] at hz; exact ⟨i, rfl, hz⟩
  simp only [Instr.lookup, Sem.run_bind, run_underlying hmt, Result.andThen_ok, MapKept.run_getObj_map hb, hck, hfn, Sem.run_pure]
  rw [hf x, ← find_get kvs x 0]
  cases hq : find? kvs x 0 with
  | some p => cases ok <;> simp
  | none => cases ok <;> simp [zeroValue, typeInfo, hi, hiz]

theorem get_upd (kvs : List (α × β)) (x : α) (v : β) (y : α) : get? (kvs ++ [(x, v)]) y = match get? kvs y with | some u => some u | none => if x = y then some v else none := by
  induction kvs with
  | nil => simp [get?]
  | cons p r ih =>
    obtain ⟨k, u⟩ := p
    simp only [List.cons_append, get?]
    split
    · rfl
    · exact ih

theorem get_mod (x : α) (v : β) : ∀ (kvs : List (α × β)) (i j : Nat) (u : β), find? kvs x i = some (i + j, u) →
    ∀ y, get? (kvs.modify j fun p => (p.1, v)) y = if x = y then some v else get? kvs y
  | [], i, j, u, h, y => by simp [find?] at h
  | (k, w) :: r, i, j, u, h, y => by
    simp only [find?] at h
    split at h
    · rename_i e
      subst e
      simp only [Option.some.injEq, Prod.mk.injEq] at h
      have : j = 0 := by omega
      subst this
      simp only [List.modify_zero_cons, get?]
      split <;> simp_all
    · rename_i e
      have hj : ∃ j', j = j' + 1 := by
        cases j with
        | zero =>
          exfalso
          have : ∀ (r : List (α × β)) (n : Nat) (p : Nat × β), find? r x n = some p → n ≤ p.1 := by
            intro r
            induction r with
            | nil => intro n p h; simp [find?] at h
            | cons q r ih =>
              intro n p h
              obtain ⟨a, b⟩ := q
              simp only [find?] at h
              split at h
              · simp only [Option.some.injEq] at h; subst h; exact Nat.le_refl _
              · have := ih _ _ h; omega
          have := this _ _ _ h
          simp at this; omega
        | succ j' => exact ⟨j', rfl⟩
      obtain ⟨j', rfl⟩ := hj
      have ih := get_mod x v r (i + 1) j' u (by rw [h]; congr 2; omega) y
      simp only [List.modify_succ_cons, get?, ih]
      by_cases e2 : x = y
      · subst e2; simp [e]
      · simp [e2]

theorem get_none_keys : ∀ {kvs : List (α × β)} {x : α}, get? kvs x = none → x ∉ kvs.map (·.1)
  | [], _, _ => by simp
  | (k, v) :: r, x, h => by
    simp only [get?] at h
    split at h
    · cases h
    · rename_i e
      simp only [List.map_cons, List.mem_cons, not_or]
      exact ⟨fun h => e h.symm, get_none_keys h⟩

theorem update_run {mt et : TypeId} {h : Heap} {m : Nat} {f : α → Option β} (k : KeyOf P kt K) (hmt : P.underlying mt = some (.map kt et)) 
    (hm : MapAt h m K V f) (x : α) (v : β) {G : Unit → Heap → Prop}
    (hk : ∀ h', MapAt h' m K V (fun y => if x = y then some v else f y) → Frm [m] h h' → h'.size = h.size → G () h') :
    RunH P (Instr.mapUpdate mt (.map (some m)) (K x) (V v)) h G := by
  obtain ⟨es, clock, kvs, hb, hkv, hnd, hbl, hbn, hf⟩ := hm
  intro w hw
  subst hw
  have hlt := lt_of_get hb
  have hfn := MapKept.run_findKey (w := w) k.under (findNow_kv k x es.toList kvs 0 hkv)
  have hck := MapKept.run_checkKey (w := w) k.under (k.key x) false 9999
  have same : ∀ o : Obj, Same w { w with heap := w.heap.setIfInBounds m o } := fun o =>
    ⟨rfl, rfl, rfl, kept_of (L := [m]) (Frm.set o (by simp)) fun b hb' c hc => by
      simp only [List.mem_singleton] at hb'
      subst hb'
      rw [hb] at hc; cases hc⟩
  cases hq : find? kvs x 0 with
  | none =>
    have hx : get? kvs x = none := by rw [← find_get kvs x 0, hq]; rfl
    refine ⟨(), { w with heap := w.heap.setIfInBounds m (.map (es.push { key := K x, val := V v, born := clock }) (clock + 1)) }, ?_, same _, hk _ ?_ (Frm.set _ (by simp)) (by simp)⟩
    · simp only [Instr.mapUpdate, Sem.run_bind, run_underlying hmt, Result.andThen_ok, MapKept.run_getObj_map hb, hck, hfn, hq, Option.map_none, MapKept.run_setObj_map _ hb]
    · refine ⟨_, _, kvs ++ [(x, v)], get_set hlt, ?_, ?_, ?_, ?_, ?_⟩
      · simp only [KV, Array.toList_push, List.map_append, List.map_cons, List.map_nil]
        rw [show es.toList.map (fun e => (e.key, e.val)) = _ from hkv]
      · simp only [List.map_append, List.map_cons, List.map_nil]
        refine List.nodup_append.2 ⟨hnd, by simp, ?_⟩
        intro a ha b hb2 e
        simp only [List.mem_singleton] at hb2
        subst hb2 e
        exact get_none_keys hx ha
      · intro e he
        simp only [Array.toList_push, List.mem_append, List.mem_singleton] at he
        rcases he with he | rfl
        · have := hbl e he; omega
        · simp
      · simp only [Array.toList_push, List.map_append, List.map_cons, List.map_nil]
        refine List.nodup_append.2 ⟨hbn, by simp, ?_⟩
        intro a ha b hb2 e
        simp only [List.mem_singleton] at hb2
        subst hb2 e
        obtain ⟨y, hy, e⟩ := List.mem_map.1 ha
        have := hbl y hy; omega
      · intro y
        show (if x = y then some v else f y) = _
        rw [get_upd, hf y]
        by_cases e : x = y
        · subst e; simp [hx]
        · simp only [e, if_false]
          cases get? kvs y <;> rfl
  | some p =>
    obtain ⟨j, u⟩ := p
    have hesj : ∀ (kvs : List (α × β)) (i j : Nat) (u : β), find? kvs x i = some (j, u) → ∃ j', j = i + j' ∧ kvs[j']? = some (x, u) := by
      intro kvs
      induction kvs with
      | nil => intro i j u h; simp [find?] at h
      | cons q r ih =>
        intro i j u h
        obtain ⟨a, b⟩ := q
        simp only [find?] at h
        split at h
        · rename_i e
          simp only [Option.some.injEq, Prod.mk.injEq] at h
          exact ⟨0, by omega, by simp [e, h.2]⟩
        · obtain ⟨j', e1, e2⟩ := ih _ _ _ h
          exact ⟨j' + 1, by omega, by simpa using e2⟩
    obtain ⟨j', e1, e2⟩ := hesj kvs 0 j u hq
    have hj : j' = j := by omega
    subst hj
    have hlen : es.toList.length = kvs.length := by
      have := congrArg List.length (show es.toList.map (fun e => (e.key, e.val)) = _ from hkv)
      simpa using this
    have hjl : j' < es.size := by
      have := (List.getElem?_eq_some_iff.1 e2).1
      rw [← Array.length_toList]; omega
    have hkey : (es[j']'hjl).key = K x := by
      have h1 := congrArg (fun l => l[j']?) (show es.toList.map (fun e => (e.key, e.val)) = _ from hkv)
      simp only [List.getElem?_map, e2, Option.map_some] at h1
      rw [List.getElem?_eq_getElem (by rw [Array.length_toList]; exact hjl)] at h1
      simp only [Option.map_some, Option.some.injEq, Prod.mk.injEq, Array.getElem_toList] at h1
      exact h1.1
    have hold : (((es[j']?).map (·.key)).getD (K x)) = K x := by
      rw [Array.getElem?_eq_getElem hjl]; simp [hkey]
    refine ⟨(), { w with heap := w.heap.setIfInBounds m (.map (es.modify j' fun e => { e with key := K x, val := V v }) clock) }, ?_, same _, hk _ ?_ (Frm.set _ (by simp)) (by simp)⟩
    · simp only [Instr.mapUpdate, Sem.run_bind, run_underlying hmt, Result.andThen_ok, MapKept.run_getObj_map hb, hck, hfn, hq, Option.map_some, hold, Instr.keyThatStays, k.bits, if_true, Sem.run_pure,
        MapKept.run_setObj_map _ hb]
    · refine ⟨_, _, kvs.modify j' fun p => (p.1, v), get_set hlt, ?_, ?_, ?_, ?_, ?_⟩
      · apply List.ext_getElem?
        intro i
        have h1 := congrArg (fun l => l[i]?) (show es.toList.map (fun e => (e.key, e.val)) = _ from hkv)
        simp only [List.getElem?_map, Array.getElem?_toList, Array.getElem?_modify, List.getElem?_modify] at h1 ⊢
        by_cases e : j' = i
        · subst e
          simp [e2, Array.getElem?_eq_getElem hjl]
        · simpa [e] using h1
      · have : (kvs.modify j' fun p => (p.1, v)).map (·.1) = kvs.map (·.1) := by
          apply List.ext_getElem?
          intro i
          simp only [List.getElem?_map, List.getElem?_modify]
          split
          · cases kvs[i]? <;> simp
          · simp
        rw [this]; exact hnd
      · intro e he
        obtain ⟨i, hi, rfl⟩ := List.getElem_of_mem he
        have hi' : i < es.size := by simpa using hi
        have h0 := hbl es[i] (by simp)
        simp only [Array.getElem_toList, Array.getElem_modify]
        split
        · exact h0
        · exact h0
      · have : (es.modify j' fun e => { e with key := K x, val := V v }).toList.map (·.born) = es.toList.map (·.born) := by
          apply List.ext_getElem?
          intro i
          simp only [List.getElem?_map, Array.getElem?_toList, Array.getElem?_modify]
          split
          · cases es[i]? <;> simp
          · simp
        rw [this]; exact hbn
      · intro y
        show (if x = y then some v else f y) = _
        rw [get_mod x v kvs 0 j' u (by rw [hq]; simp) y, hf y]

theorem clear_run {mt kt et ty : TypeId} (hmt : P.underlying mt = some (.map kt et)) {h : Heap} {m : Nat} {f : α → Option β} (hm : MapAt h m K V f) {G : Value → Heap → Prop}
    (hk : ∀ h', MapAt h' m K V (fun _ => none) → Frm [m] h h' → h'.size = h.size → G (.tuple #[]) h') : RunH P (Builtin.clear_ #[mt] ty #[.map (some m)]) h G := by
  obtain ⟨es, clock, kvs, hb, _⟩ := hm
  intro w hw
  subst hw
  refine ⟨_, { w with heap := w.heap.setIfInBounds m (.map #[] clock) }, ?_, ⟨rfl, rfl, rfl, kept_of (L := [m]) (Frm.set _ (by simp)) fun b hb' c hc => by
      simp only [List.mem_singleton] at hb'
      subst hb'
      rw [hb] at hc; cases hc⟩, hk _ (MapAt.empty (get_set (lt_of_get hb))) (Frm.set _ (by simp)) (by simp)⟩
  simp [Builtin.clear_, run_underlying hmt, MapKept.run_getObj_map hb, MapKept.run_setObj_map _ hb]

end
/-! ## Copy -/

section
variable {P : Program}

theorem setRow_at {w : World} {g : Nat} {cur : Array Value} {t : TypeId} {fr : Nat × Nat} (hg : w.heap[g]? = some (.cells cur t fr)) (cs : Array Value) :
    (w.setRow g cs).heap = w.heap.setIfInBounds g (.cells cs t fr) := by
  apply Array.ext_getElem?
  intro i
  simp only [World.setRow, Array.getElem?_modify, Array.getElem?_setIfInBounds]
  by_cases e : g = i
  · subst e
    rw [if_pos rfl, if_pos rfl, if_pos (lt_of_get hg), hg]
    rfl
  · rw [if_neg e, if_neg e]

theorem bv_firstCells (s : ByteArray) (n : Nat) : ((s.extract 0 n).data.map fun b => Value.int .u8 b.toNat) = ((bv s).take n).toArray := by
  apply Array.ext'
  simp [bv, ByteArray.data_extract, List.map_take]

/-- copy(dst, s), dst's array the function's own. -/
theorem copy_string {dT sT ty elem : TypeId} (hu : P.underlying dT = some (.slice elem)) (hs : (P.info? elem).map (·.size) = some 1)
    {h : Heap} {g o dLen dCap : Nat} {cur : Array Value} {t : TypeId} {s : ByteArray} (hg : h[g]? = some (.cells cur t (0, 0))) (hfit : o + Nat.min s.size dLen ≤ cur.size) {K : Value → Heap → Prop}
    (hk : ∀ h', h' = h.setIfInBounds g (.cells (cur.toList.take o ++ (bv s).take dLen ++ cur.toList.drop (o + ((bv s).take dLen).length)).toArray t (0, 0)) → Frm [g] h h' → h'.size = h.size →
      K (.int .i64 (Nat.min s.size dLen : Nat)) h') :
    RunH P (Builtin.copy_ #[dT, sT] ty #[.slice (some ⟨g, o, none⟩) dLen dCap, .string s]) h K := by
  intro w hw
  subst hw
  have h1 : ∀ v ∈ (bv s).take dLen, v.oneCell' = true := by
    intro v hv
    have := List.mem_of_mem_take hv
    simp only [bv, List.mem_map] at this
    obtain ⟨b, _, rfl⟩ := this
    rfl
  have hlen : ((bv s).take dLen).length = Nat.min s.size dLen := by rw [List.length_take, bv_length]; exact Nat.min_comm _ _
  have hst := run_storeCells_at P g o t ((bv s).take dLen) 0 cur w hg (by rw [hlen]; simpa using hfit) h1
  have htk : ((bv s).take (Nat.min s.size dLen)) = (bv s).take dLen := by
    rw [show Nat.min s.size dLen = min dLen (bv s).length by rw [bv_length]; exact Nat.min_comm _ _, ← List.take_take, List.take_length]
  refine ⟨_, _, ?_, ?_, hk _ (setRow_at hg _) ?_ ?_⟩
  · cases hq : P.info? elem with
    | none => simp [hq] at hs
    | some i =>
      have hi : i.size = 1 := by simpa [hq] using hs
      have hfc : Builtin.firstCells 1 (Nat.min s.size dLen) (.string s) = pure ((bv s).take dLen).toArray := by
        rw [← htk, ← bv_firstCells]; rfl
      have hst' : (storeCells ⟨g, o, none⟩ ((bv s).take dLen) 0).run P w = .ok () (w.setRow g (cur.toList.take o ++ (bv s).take dLen ++ cur.toList.drop (o + ((bv s).take dLen).length)).toArray) := by
        simpa only [Nat.add_zero] using hst
      have e : Builtin.copy_ #[dT, sT] ty #[.slice (some ⟨g, o, none⟩) dLen dCap, .string s] = (do
          let .slice elem ← underlying dT | stuck "copy: slice type expected"
          let cells ← Builtin.firstCells (← sizeOf elem) (Nat.min s.size dLen) (.string s)
          storeCells ⟨g, o, none⟩ cells.toList
          pure (goInt (Nat.min s.size dLen : Nat))) := rfl
      rw [e]
      simp [run_underlying hu, sizeOf, typeInfo, hq, hi, hfc, hst', goInt]
  · refine ⟨rfl, rfl, rfl, ?_⟩
    rw [setRow_at hg]
    exact kept_of (L := [g]) (Frm.set _ (by simp)) fun b hb' c hc => by
      simp only [List.mem_singleton] at hb'
      subst hb'
      rw [hg] at hc; cases hc
  · rw [setRow_at hg]; exact Frm.set _ (by simp)
  · rw [setRow_at hg]; simp

end
/-! ## Ranges over maps -/

section
variable {P : Program}

/-- An iterator over a map in which nothing is laid since. -/
def IterAt (h : Heap) (it m : Nat) (es : Array MapEntry) (clock : Nat) (seen : Array Nat) : Prop :=
  h[it]? = some (.mapIter (some m) clock seen clock) ∧ h[m]? = some (.map es clock) ∧ (∀ x ∈ es.toList, x.born < clock) ∧ (es.toList.map (·.born)).Nodup

theorem range_run {mt kt et : TypeId} (hmt : P.underlying mt = some (.map kt et)) {h : Heap} {m : Nat} {es : Array MapEntry} {clock : Nat} (hb : h[m]? = some (.map es clock))
    (h1 : ∀ x ∈ es.toList, x.born < clock) (h2 : (es.toList.map (·.born)).Nodup) {K : Value → Heap → Prop}
    (hk : ∀ h', IterAt h' h.size m es clock #[] → Frm [] h h' → h'.size = h.size + 1 → K (.pointer (some ⟨h.size, 0, none⟩)) h') :
    RunH P (Instr.range mt (.map (some m))) h K := by
  intro w hw
  subst hw
  refine ⟨_, _, run_range_map w mt kt et m es clock hmt hb, Same.push _ _, hk _ ⟨get_push_new _ _, get_push hb, h1, h2⟩ (Frm.push _ _ _) (Array.size_push _)⟩

theorem next_run {ty : TypeId} {h : Heap} {it m : Nat} {es : Array MapEntry} {clock : Nat} {seen : Array Nat} (hi : IterAt h it m es clock seen) {K : Value → Heap → Prop}
    (hend : (leftOf es seen).size = 0 → K (.tuple #[.bool false]) h)
    (hgo : ∀ e ∈ (leftOf es seen).toList, ∀ h', IterAt h' it m es clock (seen.push e.born) → Frm [it] h h' → h'.size = h.size → K (.tuple #[.bool true, e.key, e.val]) h') :
    RunH P (Instr.next (.pointer (some ⟨it, 0, none⟩)) false ty) h K := by
  obtain ⟨h1, h2, hold, hnd⟩ := hi
  intro w hw
  subst hw
  have hne : it ≠ m := by
    rintro rfl
    rw [h1] at h2; cases h2
  simp only [Instr.next, getObj, Sem.run_bind, Sem.run, h1, h2, Result.andThen, next_test_false seen es clock clock hold (Nat.le_refl _), Bool.false_eq_true, if_false]
  have hl : leftOf es seen = Array.filter (fun e => !seen.contains e.born) es := rfl
  rw [← hl]
  have hmem : ∀ x ∈ (leftOf es seen).toList, x.born < clock := fun x hx => hold x (by rw [hl] at hx; simp at hx ⊢; exact hx.1)
  generalize leftOf es seen = L at *
  have e1 : L.filter (fun x => decide (x.born < clock)) = L := Array.filter_eq_self.2 (fun x hx => by simpa using hmem x (by simpa using hx))
  have e2 : L.filter (fun x => decide (x.born ≥ clock)) = #[] := by
    rw [Array.filter_eq_empty_iff]
    intro x hx
    have := hmem x (by simpa using hx)
    simp
    omega
  simp only [e1, e2, Array.append_empty]
  by_cases h0 : L.size = 0
  · have : L = #[] := Array.eq_empty_of_size_eq_zero h0
    subst this
    refine ⟨.tuple #[.bool false], w, ?_, Same.refl w, hend rfl⟩
    simp [choose, Sem.run, Question.forced]
  · have hne' : L.isEmpty = false := by simp [Array.isEmpty, h0]
    simp only [hne', Bool.false_eq_true, if_false, Array.empty_append, Array.size_map]
    have hch : ∃ (j : Nat) (w1 : World), j < L.size ∧ w1.heap = w.heap ∧ Same w w1 ∧ (choose (Question.mapNext L.size)).run P w = .ok j w1 := by
      by_cases hf : L.size ≤ 1
      · exact ⟨0, w, by omega, rfl, Same.refl w, by simp [choose, Sem.run, Question.forced, hf]⟩
      · exact ⟨_, w.drew, Nat.mod_lt _ (by omega), rfl, ⟨rfl, rfl, rfl, Kept.refl _⟩, by
          simp only [choose, Sem.run, Question.forced, decide_eq_true_eq, hf, if_false, Question.cut]
          rfl⟩
    obtain ⟨j, w1, hj, hh, hs, hrun⟩ := hch
    have hi1 : w1.heap[it]? = some (.mapIter (some m) clock seen clock) := by rw [hh]; exact h1
    have hset : (setObj it (.mapIter (some m) clock (seen.push L[j].born) clock)).run P w1 = .ok () { w1 with heap := w1.heap.setIfInBounds it (.mapIter (some m) clock (seen.push L[j].born) clock) } := by
      simp [setObj, Sem.run, hi1]
    refine ⟨.tuple #[.bool true, L[j].key, L[j].val], { w1 with heap := w1.heap.setIfInBounds it (.mapIter (some m) clock (seen.push L[j].born) clock) }, ?_, ?_, hgo L[j] (by simp) _ ⟨?_, ?_, hold, hnd⟩ ?_ ?_⟩
    · simp only [hrun, Array.getElem?_map, Array.getElem?_eq_getElem hj, Option.map_some, Sem.run_bind, hset, Result.andThen]
      rfl
    · refine hs.trans ⟨rfl, rfl, rfl, kept_of (L := [it]) (Frm.set _ (by simp)) fun b hb' c hc => ?_⟩
      simp only [List.mem_singleton] at hb'
      subst hb'
      rw [hi1] at hc; cases hc
    · exact get_set (lt_of_get hi1)
    · exact get_set_ne (by rw [hh]; exact h2) hne
    · rw [hh]; exact Frm.set _ (by simp)
    · simp [hh]

theorem entry_run {h : Heap} {it m : Nat} {es : Array MapEntry} {clock : Nat} {seen : Array Nat} {e : MapEntry} (hi : IterAt h it m es clock (seen.push e.born)) (he : e ∈ es.toList) {K : Value → Prop}
    (hk : K (.tuple #[e.key, e.val])) : ReadH P (Instr.entry (.pointer (some ⟨it, 0, none⟩))) h K := by
  obtain ⟨h1, h2, hold, hnd⟩ := hi
  intro w hw
  subst hw
  refine ⟨_, ?_, hk⟩
  have hf : es.find? (·.born == e.born) = some e := by rw [← Array.find?_toList]; exact find_born e es.toList hnd he
  simp only [Instr.entry, getObj, Sem.run_bind, Sem.run, h1, h2, Result.andThen, Array.back?_push, bne_self_eq_false, Bool.false_eq_true, if_false, hf]
  rfl

end
section
variable {P : Program}
theorem Own.frm {L : List Nat} {h h' : Heap} (f : Frm L h h') {base : Nat} {e : TypeId} {size : Nat} {v : Value} {n : Nat} {xs : List Value} (ho : Own h base e size v n xs) (hn : ∀ b, v.ownBlock = some b → b ∉ L) : Own h' base e size v n xs := by
  refine ⟨ho.1, ho.2.imp id ?_⟩
  rintro ⟨g, cap, cur, rfl, h2, h3, h4⟩
  exact ⟨g, cap, cur, rfl, h2, f.get h3 (hn g rfl), h4⟩
theorem Own.slice {h : Heap} {base : Nat} {e : TypeId} {size : Nat} {v : Value} {n : Nat} {xs : List Value} (ho : Own h base e size v n xs) : ∃ a c, v = .slice a n c := by
  rcases ho.2 with ⟨rfl, rfl⟩ | ⟨g, cap, cur, rfl, _⟩
  · exact ⟨none, 0, rfl⟩
  · exact ⟨_, cap, rfl⟩
theorem Own.base {h : Heap} {b b' : Nat} {e : TypeId} {size : Nat} {v : Value} {n : Nat} {xs : List Value} (ho : Own h b e size v n xs) (hb : b' ≤ b) : Own h b' e size v n xs := by
  refine ⟨ho.1, ho.2.imp id ?_⟩
  rintro ⟨g, cap, cur, h1, h2, h3⟩
  exact ⟨g, cap, cur, h1, Nat.le_trans hb h2, h3⟩
theorem Own.nil (h : Heap) (base : Nat) (e : TypeId) (size : Nat) : Own h base e size (.slice none 0 0) 0 [] := ⟨by simp, .inl ⟨rfl, rfl⟩⟩
theorem Own.lt {h : Heap} {base : Nat} {e : TypeId} {size : Nat} {v : Value} {n : Nat} {xs : List Value} (ho : Own h base e size v n xs) {b : Nat} (hb : v.ownBlock = some b) : base ≤ b ∧ b < h.size := by
  rcases ho.2 with ⟨rfl, _⟩ | ⟨g, cap, cur, rfl, h1, h2, _⟩
  · simp [Value.ownBlock] at hb
  · simp only [Value.ownBlock, Option.some.injEq] at hb
    subst hb; exact ⟨h1, lt_of_get h2⟩
theorem Own.len {h : Heap} {base : Nat} {e : TypeId} {size : Nat} {v : Value} {n : Nat} {xs : List Value} (ho : Own h base e size v n xs) : n ≤ maxLen := by
  rcases ho.2 with ⟨_, rfl⟩ | ⟨g, cap, cur, _, _, _, h1, h2, _⟩
  · exact Nat.zero_le _
  · omega
/-- What is read as a row. -/
theorem Own.slRow {h : Heap} {base : Nat} {e : TypeId} {a : Option Addr} {n m c : Nat} {xs : List Value} (ho : Own h base e 1 (.slice a m c) n xs) : SlRow h a m xs ∧ m = n ∧ ∀ ad, a = some ad → ad.spot = none := by
  rcases ho.2 with ⟨h1, rfl⟩ | ⟨g, cap, cur, h1, _, hg, hnc, _, hs, ht⟩
  · simp only [Value.slice.injEq] at h1
    obtain ⟨rfl, rfl, rfl⟩ := h1
    exact ⟨⟨by simpa using ho.1, .inl rfl⟩, rfl, fun ad e => by cases e⟩
  · simp only [Value.slice.injEq] at h1
    obtain ⟨rfl, rfl, rfl⟩ := h1
    refine ⟨⟨by simpa using ho.1, .inr ⟨_, rfl, ?_⟩⟩, rfl, fun ad e => by cases e; rfl⟩
    intro j v hj
    rw [add_at, cl_at hg, Nat.zero_add]
    rw [← ht] at hj
    have hlt := (List.getElem?_eq_some_iff.1 hj).1
    rw [List.getElem?_take_of_lt (by rw [List.length_take] at hlt; omega)] at hj
    simpa using hj

/-- An element put behind a row: its cell is made, and appended. -/
theorem append_elem {base : Nat} {t e : TypeId} {z : Value} {size bytes : Nat} (ht : P.underlying t = some (.slice e)) (hE : (P.info? e).map (fun i => (i.zero, i.size, i.bytes)) = some (some z, size, bytes))
    (hzs : z.cells.size = size) (hsz : 0 < size) {h : Heap} {v : Value} {n : Nat} {xs : List Value} (hown : Own h base e size v n xs)
    {us : List Value} (hl : us.length = size) (h1 : ∀ u ∈ us, u.oneCell' = true)
    (hbytes : (n + 1) * bytes ≤ 140737488355328) (h63 : n + 1 ≤ maxLen) (hbase : base ≤ h.size) {K : Value → Heap → Prop}
    (hk : ∀ v' h', Own h' base e size v' (n + 1) (xs ++ us) → Frm (blockOf v) h h' → (∀ b, v'.ownBlock = some b → v.ownBlock = some b ∨ h.size ≤ b) → K v' h') :
    Al h (.cells us.toArray e) fun k h1 => RunH P (Builtin.append_ #[t, t] t #[v, .slice (some ⟨k, 0, none⟩) 1 1]) h1 K := by
  refine al_intro fun ha _ ga fa sa => ?_
  obtain ⟨i, hi, he⟩ := Option.map_eq_some_iff.1 hE
  simp only [Prod.mk.injEq] at he
  have hown' : Own ha base e size v n xs := hown.frm fa (by simp)
  refine append_own ht hi he.1 he.2.1 he.2.2 hzs hsz hown' (m := 1) (news := us) (by rw [hl, Nat.one_mul]) ?_ h1 hbytes h63 (by omega) ?_
  · intro j u hj
    rw [add_at, cl_at ga, Nat.zero_add]
    simpa using hj
  · intro v' h' ho f hb
    refine hk v' h' ho ((Frm.mono fa (by simp)).trans f) fun b hb' => ?_
    rcases hb b hb' with h2 | h2
    · exact .inl h2
    · exact .inr (by omega)
end
end Go.Proofs.Ytoldgeolocfmiaa.V
