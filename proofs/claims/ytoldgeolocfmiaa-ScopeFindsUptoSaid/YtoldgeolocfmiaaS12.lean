/- What statements declare. -/
import Derived.Test.YtoldgeolocfmiaaS11
namespace Go.Proofs.Ytoldgeolocfmiaa
open Go Go.Proofs Go.Proofs.Ytoldgeolocfmiaa.V
/-! ## What statements declare -/

def addN (out : List ByteArray) (s : ByteArray) : List ByteArray := if memB out s then out else out ++ [s]
def adds (out l : List ByteArray) : List ByteArray := l.foldl addN out
theorem adds_append (out l l' : List ByteArray) : adds out (l ++ l') = adds (adds out l) l' := List.foldl_append
theorem adds_cons (out : List ByteArray) (s : ByteArray) (l : List ByteArray) : adds out (s :: l) = adds (addN out s) l := rfl
theorem mem_addN {out : List ByteArray} {s x : ByteArray} : x ∈ addN out s ↔ x ∈ out ∨ x = s := by
  unfold addN
  by_cases h : memB out s = true
  · rw [if_pos h]
    exact ⟨.inl, fun h' => h'.elim id fun e => e ▸ (memB_iff _ _).1 h⟩
  · rw [if_neg h]; simp
theorem mem_adds {x : ByteArray} : ∀ {l out : List ByteArray}, x ∈ adds out l ↔ x ∈ out ∨ x ∈ l
  | [], out => by simp [adds]
  | s :: l, out => by
    rw [adds_cons, mem_adds, mem_addN, List.mem_cons]
    constructor
    · rintro ((h | h) | h) <;> simp [h]
    · rintro (h | h | h) <;> simp [h]
theorem adds_known {out l : List ByteArray} (h : ∀ x ∈ l, x ∈ out) : adds out l = out := by
  induction l generalizing out with
  | nil => rfl
  | cons s l ih =>
    rw [adds_cons, addN, if_pos ((memB_iff _ _).2 (h s (by simp)))]
    exact ih fun x hx => h x (by simp [hx])
theorem adds_adds : ∀ (l acc out : List ByteArray), adds out (adds acc l) = adds out (acc ++ l)
  | [], acc, out => by simp [adds]
  | s :: l, acc, out => by
    rw [adds_cons, adds_adds l]
    unfold addN
    by_cases h : memB acc s = true
    · rw [if_pos h, adds_append, adds_append, adds_cons, addN, if_pos ((memB_iff _ _).2 (mem_adds.2 (.inr ((memB_iff _ _).1 h))))]
    · rw [if_neg h]; simp
theorem adds_nil (l out : List ByteArray) : adds out (adds [] l) = adds out l := by rw [adds_adds]; rfl
theorem addN_length (out : List ByteArray) (s : ByteArray) : (addN out s).length ≤ out.length + 1 := by
  unfold addN; split <;> simp
theorem adds_length : ∀ (l out : List ByteArray), (adds out l).length ≤ out.length + l.length
  | [], out => by simp [adds]
  | s :: l, out => by
    rw [adds_cons]
    have := adds_length l (addN out s)
    have := addN_length out s
    simp only [List.length_cons]; omega
theorem addN_nodup {out : List ByteArray} (h : out.Nodup) (s : ByteArray) : (addN out s).Nodup := by
  unfold addN
  by_cases hm : memB out s = true
  · rw [if_pos hm]; exact h
  · rw [if_neg hm]
    refine List.nodup_append.2 ⟨h, by simp, ?_⟩
    intro a ha b hb e
    rw [List.mem_singleton.1 hb] at e
    exact hm ((memB_iff _ _).2 (e ▸ ha))
theorem adds_nodup : ∀ (l out : List ByteArray), out.Nodup → (adds out l).Nodup
  | [], _, h => h
  | s :: l, out, h => adds_nodup l _ (addN_nodup h s)

/-- The names that nodes declare, as often as they stand there. -/
def decls : Nat → List ND → List ByteArray
  | 0, _ => []
  | d + 1, l => l.flatMap fun n => if n.kind = 39 ∨ n.kind = 10 then [] else (if n.kind = 23 then [n.name] else []) ++ decls d n.l
def declOf (d : Nat) (n : ND) : List ByteArray := if n.kind = 39 ∨ n.kind = 10 then [] else (if n.kind = 23 then [n.name] else []) ++ decls d n.l
theorem decls_succ (d : Nat) (l : List ND) : decls (d + 1) l = l.flatMap (declOf d) := rfl
theorem decls_length : ∀ (d : Nat) (l : List ND), (decls d l).length ≤ ND.sizeAll l
  | 0, l => by simp [decls]
  | d + 1, [] => by simp [decls]
  | d + 1, n :: r => by
    have h1 := decls_length (d + 1) r
    have h2 := decls_length d n.l
    have h3 := n.size_eq
    rw [decls_succ] at h1 ⊢
    simp only [List.flatMap_cons, List.length_append, ND.sizeAll]
    have : (declOf d n).length ≤ n.size := by
      unfold declOf
      split
      · simp
      · split <;> simp <;> omega
    omega
theorem flatMap_congr' {α β : Type} {f g : α → List β} : ∀ {l : List α}, (∀ a ∈ l, f a = g a) → l.flatMap f = l.flatMap g
  | [], _ => rfl
  | a :: l, h => by rw [List.flatMap_cons, List.flatMap_cons, h a (by simp), flatMap_congr' fun b hb => h b (by simp [hb])]
theorem decls_more : ∀ (d e : Nat) (l : List ND), ND.deepAll l ≤ d → ND.deepAll l ≤ e → decls d l = decls e l
  | 0, e, [], _, _ => by cases e <;> rfl
  | 0, _, n :: r, h, _ => by have := n.deep_eq; simp only [ND.deepAll] at h; omega
  | d + 1, 0, [], _, _ => rfl
  | d + 1, 0, n :: r, _, h => by have := n.deep_eq; simp only [ND.deepAll] at h; omega
  | d + 1, e + 1, l, h1, h2 => by
    rw [decls_succ, decls_succ]
    refine flatMap_congr' fun n hn => ?_
    have := ND.deepAll_le hn
    have := n.deep_eq
    unfold declOf
    rw [decls_more d e n.l (by omega) (by omega)]

/-! ## Lists of strings in memory -/

theorem app_str {h : Heap} {base : Nat} {v : Value} {l : List ByteArray} {s : ByteArray} {K : Value → Heap → Prop} (ho : Own h base 9 1 v l.length (strV l)) (hl : l.length ≤ 4398046511104) (hb : base ≤ h.size)
    (hk : ∀ v' h', Own h' base 9 1 v' (l ++ [s]).length (strV (l ++ [s])) → Frm (blockOf v) h h' → (∀ b, v'.ownBlock = some b → v.ownBlock = some b ∨ h.size ≤ b) → K v' h') :
    Al h (.cells #[.string s] 9) fun k h1 => RunH Try.prog (Builtin.append_ #[23, 23] 23 #[v, .slice (some ⟨k, 0, none⟩) 1 1]) h1 K := by
  refine append_elem (z := .string ⟨#[]⟩) (size := 1) (bytes := 16) (by kernel_rfl) (by kernel_rfl) rfl (by omega) ho (us := [.string s]) rfl (fun u hu => by rw [List.mem_singleton.1 hu]; rfl) (by omega) (by simp only [maxLen]; omega) hb ?_
  intro v' h' o f hb'
  exact hk v' h' (by simpa [strV] using o) f hb'
theorem own_frm {h h' : Heap} {base : Nat} {e : TypeId} {size : Nat} {v : Value} {n : Nat} {xs : List Value} (ho : Own h base e size v n xs) (f : Frm [] h h') : Own h' base e size v n xs := Own.frm f ho (by simp)

theorem same_ok {h : Heap} {a b : Option Addr} {n c m d : Nat} {l l' : List ByteArray} (h1 : StrsAt h a n l) (h2 : StrsAt h b m l') (hn : n ≤ 281474976710656) :
    Pur Try.prog 20 #[.slice a n c, .slice b m d] h (.bool (decide (l = l'))) := by
  refine .mk fun R hR => c20 _ _ _ _ _ _ _ _ ?_
  rw [cnd_if]
  have e1 := h1.1
  have e2 := h2.1
  by_cases z : n = m
  case neg =>
    rw [if_pos (by simp only [bne_iff_ne, ne_eq, Int.natCast_inj]; exact z)]
    refine fin_bool ?_ hR
    rw [eq_comm, decide_eq_false_iff_not]
    rintro rfl
    omega
  rw [if_neg (by simp [z])]
  refine loop_nat (N := n) (X := fun k h' => h' = h ∧ l.take k = l'.take k) ⟨rfl, by simp⟩ ?_
  rintro k h' hk ⟨rfl, ht⟩ I μ step
  rw [cnd_if]
  by_cases hlt : k < n
  · rw [if_pos (by simpa using hlt)]
    have hi := List.getElem?_eq_getElem (l := l) (i := k) (by omega)
    have hi' := List.getElem?_eq_getElem (l := l') (i := k) (by omega)
    obtain ⟨ad, rfl, hc⟩ := h1.2 k _ hi
    obtain ⟨bd, rfl, hc'⟩ := h2.2 k _ hi'
    refine ⟨by omega, by omega, (show onSome _ _ from ?_)⟩
    simp only [onSome_some', Int.toNat_natCast, Nat.mul_one]
    refine ⟨_, hc, by omega, by omega, _, hc', ?_⟩
    rw [beq_str, cnd_if]
    by_cases e : l[k]'(by omega) = l'[k]'(by omega)
    · rw [if_neg (by simp [e])]
      refine ⟨in64 (by omega) (by omega), step h' hlt ⟨rfl, ?_⟩⟩
      rw [List.take_add_one, List.take_add_one, ht, hi, hi', e]
    · rw [if_pos (by simp [e])]
      refine fin_bool ?_ hR
      rw [eq_comm, decide_eq_false_iff_not]
      rintro rfl
      exact e rfl
  · rw [if_neg (by simpa using hlt)]
    refine fin_bool ?_ hR
    rw [List.take_of_length_le (by omega), List.take_of_length_le (by omega)] at ht
    rw [decide_eq_true ht]

theorem declOf_length (d : Nat) (n : ND) : (declOf d n).length ≤ n.size := by
  have := decls_length d n.l
  have := n.size_eq
  unfold declOf
  split
  · simp
  · split <;> simp <;> omega
theorem decls_take (d : Nat) {l : List ND} {k : Nat} {n : ND} (hi : l[k]? = some n) : decls (d + 1) (l.take (k + 1)) = decls (d + 1) (l.take k) ++ declOf d n := by
  rw [decls_succ, decls_succ, List.take_add_one, hi, List.flatMap_append]
  simp
theorem sizeAll_append : ∀ (l l' : List ND), ND.sizeAll (l ++ l') = ND.sizeAll l + ND.sizeAll l'
  | [], l' => by simp [ND.sizeAll]
  | a :: r, l' => by simp only [List.cons_append, ND.sizeAll, sizeAll_append r l']; omega
theorem sizeAll_take (l : List ND) (k : Nat) : ND.sizeAll (l.take k) ≤ ND.sizeAll l := by
  have := sizeAll_append (l.take k) (l.drop k)
  rw [List.take_append_drop] at this
  omega

/-- Strings put behind a list of the call's own. -/
def OutAt (h : Heap) (base : Nat) (v : Value) (out : List ByteArray) : Prop := Own h base 9 1 v out.length (strV out)
theorem OutAt.strs {h : Heap} {base : Nat} {a : Option Addr} {n c : Nat} {out : List ByteArray} (ho : OutAt h base (.slice a n c) out) : StrsAt h a n out := own_strs ho
theorem OutAt.frm {h h' : Heap} {base : Nat} {v : Value} {out : List ByteArray} (ho : OutAt h base v out) (f : Frm [] h h') : OutAt h' base v out := own_frm ho f
theorem OutAt.slice {h : Heap} {base : Nat} {v : Value} {out : List ByteArray} (ho : OutAt h base v out) : ∃ a c, v = .slice a out.length c := V.Own.slice ho

/-- One string more, unless it is there. -/
theorem addOne {h : Heap} {base : Nat} {a : Option Addr} {n c : Nat} {out : List ByteArray} {s : ByteArray} (ho : OutAt h base (.slice a n c) out) (hl : out.length ≤ 4398046511104) (hb : base ≤ h.size) {f : FuncId}
    (hf : Pur Try.prog f #[.slice a n c, .string s] h (.bool (memB out s))) {K : Value → Heap → Prop} {Q : List PanicEntry → Heap → Prop}
    (hk : ∀ v' h', OutAt h' base v' (addN out s) → Frm (blockOf (.slice a n c)) h h' → (∀ b, v'.ownBlock = some b → (Value.slice a n c).ownBlock = some b ∨ h.size ≤ b) → K v' h') :
    CallsH Try.prog f #[.slice a n c, .string s] h (endH (fun u h' => ∃ b, u = .bool b ∧ cnd (!b) (Al h' (.cells #[.string s] 9) fun k h1 => RunH Try.prog (Builtin.append_ #[23, 23] 23 #[.slice a n c, .slice (some ⟨k, 0, none⟩) 1 1]) h1 fun u h2 => ∃ (a' : Option Addr) (n' c' : Nat), u = .slice a' n' c' ∧ K (.slice a' n' c') h2) (K (.slice a n c) h')) Q) := by
  refine hf.use ⟨_, rfl, ?_⟩
  rw [cnd_if]
  by_cases z : memB out s = true
  · rw [if_neg (by simp [z])]
    refine hk _ h ?_ (Frm.refl _ _) fun b hb => .inl hb
    rw [addN, if_pos z]; exact ho
  · rw [if_pos (by simpa using z)]
    refine app_str ho hl hb fun v' h' o f hb' => ?_
    obtain ⟨a', c', rfl⟩ := V.Own.slice o
    refine ⟨_, _, _, rfl, hk _ h' ?_ f hb'⟩
    rw [addN, if_neg z]; exact o

theorem own_block_old {h h' : Heap} {base : Nat} {v : Value} {out : List ByteArray} (ho : OutAt h base v out) (f : Frm [] h h') : ∀ b ∈ blockOf v, base ≤ b ∧ b < h.size := fun b hb => V.Own.lt ho (by simpa [blockOf] using hb)

set_option maxRecDepth 20000 in
set_option maxHeartbeats 1000000 in
theorem vars_ok : ∀ (d : Nat) {h : Heap} {a : Option Addr} {n c : Nat} {l : List ND}, NodesAt h a n l → ND.deepAll l ≤ d → ND.sizeAll l ≤ 4398046511104 →
    CallsH Try.prog 16 #[.slice a n c] h fun e h' => ∃ v, e = .returned v ∧ OutAt h' h.size v (adds [] (decls (d + 1) l)) ∧ Frm [] h h' := by
  intro d
  induction d with
  | zero =>
    intro h a n c l hl hd hs
    have el : l = [] := by
      cases l with
      | nil => rfl
      | cons k r => have := k.deep_eq; simp only [ND.deepAll] at hd; omega
    subst el
    have hn : n = 0 := hl.1.symm
    subst hn
    refine c16 _ _ _ _ _ ?_
    refine loop_sl (N := 0) (v0 := .slice none 0 0) (X := fun k v h' => h' = h ∧ v = .slice none 0 0) ⟨rfl, rfl⟩ ?_
    rintro k a' n' c' h' hk ⟨rfl, e⟩ I μ step
    cases e
    rw [cnd_if, if_neg (by simp)]
    exact ⟨_, rfl, Own.nil _ _ _ _, Frm.refl _ _⟩
  | succ d ih =>
    intro h a n c l hl hd hs
    refine c16 _ _ _ _ _ ?_
    have hll := ND.length_le l
    have hn := hl.1
    refine loop_sl (N := n) (v0 := .slice none 0 0) (X := fun k v h' => Frm [] h h' ∧ OutAt h' h.size v (adds [] (decls (d + 2) (l.take k)))) ⟨Frm.refl _ _, by simpa [decls, adds, OutAt, strV] using Own.nil h h.size 9 1⟩ ?_
    rintro k a' n' c' h1 hk ⟨f1, o1⟩ I μ step
    rw [cnd_if]
    by_cases hlt : k < n
    · rw [if_pos (by simpa using hlt)]
      have hi : l[k]? = some (l[k]'(by omega)) := List.getElem?_eq_getElem _
      have hmem := List.mem_of_getElem? hi
      generalize l[k]'(by omega) = kd at hi hmem
      have hdt := decls_take (d + 1) hi
      have hcount : (decls (d + 2) (l.take k)).length + kd.size ≤ 4398046511104 := by
        have h1 := decls_length (d + 2) (l.take k)
        have h2 : ND.sizeAll (l.take (k + 1)) = ND.sizeAll (l.take k) + kd.size := by
          rw [List.take_add_one, hi, sizeAll_append]; simp [ND.sizeAll]
        have h3 := sizeAll_take l (k + 1)
        omega
      generalize hO : decls (d + 2) (l.take k) = O at *
      have hOl := adds_length O []
      simp only [List.length_nil, Nat.zero_add] at hOl
      have hks := kd.size_eq
      refine ⟨by omega, by omega, node_round2 hl f1 hi fun kk y h2 g2 k2 f2 n2 => ?_⟩
      obtain ⟨o2k, o2n, _, _, _, o2l⟩ := n2.open
      have F2 := f1.trans f2
      have O2 := o1.frm f2
      obtain ⟨b1, b2, b3, b4, b5, b6⟩ := box6 g2
      have hkd : ND.deepAll kd.l ≤ d := by have := ND.deepAll_le hmem; have := kd.deep_eq; omega
      have hksz : ND.sizeAll kd.l ≤ 4398046511104 := by omega
      have lt2 := lt_of_get g2
      refine ⟨fun vs h' => ∃ v, vs = [v] ∧ ¬(kd.kind = 39 ∨ kd.kind = 10) ∧ Frm [] h h' ∧ h2.size ≤ h'.size ∧ h'[kk]? = some (.cells y.cells 26 (0, 0)) ∧ OutAt h' h.size v (adds [] (O ++ if kd.kind = 23 then [kd.name] else [])), ?_, ?_⟩
      · refine ⟨_, b1, fun vs h' => vs = [.bool (decide (kd.kind = 39 ∨ kd.kind = 10))] ∧ h' = h2, ?_, ?_⟩
        · rw [cnd_if, o2k]
          by_cases z : y.k = 39
          · simp [z]
          · by_cases z' : y.k = 10 <;> simp [z, z']
        rintro bb _ hh ⟨e, rfl⟩
        simp only [List.cons.injEq, Value.bool.injEq, and_true] at e
        subst e
        rw [cnd_if]
        by_cases z1 : kd.kind = 39 ∨ kd.kind = 10
        · rw [if_pos (by simpa using z1)]
          refine ⟨in64 (by omega) (by omega), step _ hh hlt ⟨F2, ?_⟩⟩
          rw [hdt, declOf, if_pos z1, List.append_nil]; exact O2
        rw [if_neg (by simpa using z1), cnd_if]
        by_cases z2 : kd.kind = 23
        · rw [if_pos (by rw [← o2k]; simpa using z2)]
          refine ⟨_, b2, ?_⟩
          refine (scontains_ok O2.strs (by have := O2.strs.1; omega) y.nm).use ⟨_, rfl, ?_⟩
          rw [cnd_if]
          have hO2 : adds [] (O ++ if kd.kind = 23 then [kd.name] else []) = addN (adds [] O) y.nm := by rw [if_pos z2, adds_append, o2n]; rfl
          by_cases z3 : memB (adds [] O) y.nm = true
          · rw [if_neg (by simp [z3])]
            refine ⟨_, rfl, z1, F2, Nat.le_refl _, g2, ?_⟩
            rw [hO2, addN, if_pos z3]; exact O2
          · rw [if_pos (by simpa using z3)]
            refine ⟨_, b2, app_str O2 (by omega) F2.1 fun v' h3 o3 f3 hb3 => ?_⟩
            obtain ⟨a3, c3, rfl⟩ := V.Own.slice o3
            have hold := own_block_old O2 (Frm.refl _ _)
            have f3' : Frm (blockOf (.slice a' n' c')) hh h3 := f3
            have F3 : Frm [] h h3 := F2.young f3' fun x hx => .inr (hold x hx).1
            have nkk : kk ∉ blockOf (.slice a' n' c') := fun hm => by have := (own_block_old o1 (Frm.refl _ _) kk hm).2; omega
            refine ⟨_, _, _, rfl, _, rfl, z1, F3, f3'.1, f3'.get g2 nkk, ?_⟩
            rw [hO2, addN, if_neg z3]; exact o3
        · rw [if_neg (by rw [← o2k]; simpa using z2)]
          refine ⟨_, rfl, z1, F2, Nat.le_refl _, g2, ?_⟩
          rw [if_neg z2, List.append_nil]; exact O2
      · rintro a3 n3 c3 _ h3 ⟨v, e, z1, F3, hsz3, g3, O3⟩
        simp only [List.cons.injEq, and_true] at e
        subst e
        obtain ⟨r1, r2, r3, r4, r5, r6⟩ := box6 g3
        refine ⟨_, _, _, r6, ?_⟩
        refine (ih (o2l.frm F3) hkd hksz).mono ?_
        rintro e h4 ⟨vL, rfl, oL, f4⟩
        obtain ⟨aL, cL, rfl⟩ := oL.slice
        have hD := decls_length (d + 1) kd.l
        have hL := adds_length (decls (d + 1) kd.l) []
        simp only [List.length_nil, Nat.zero_add] at hL
        have hfin : adds (adds [] (O ++ if kd.kind = 23 then [kd.name] else [])) (adds [] (decls (d + 1) kd.l)) = adds [] (decls (d + 2) (l.take (k + 1))) := by
          rw [adds_nil, ← adds_append, hdt, declOf, if_neg z1, List.append_assoc]
        have hnm : (O ++ if kd.kind = 23 then [kd.name] else []).length ≤ O.length + 1 := by split <;> simp
        have hol := adds_length (O ++ if kd.kind = 23 then [kd.name] else []) []
        simp only [List.length_nil, Nat.zero_add] at hol
        generalize (adds [] (O ++ if kd.kind = 23 then [kd.name] else [])) = out' at *
        generalize adds [] (decls (d + 1) kd.l) = L at *
        have F4 := F3.trans f4
        refine endH_ret ⟨_, _, _, rfl, ?_⟩
        refine loop_sl (N := L.length) (v0 := .slice a3 n3 c3) (X := fun j v h' => Frm [] h h' ∧ OutAt h' h.size v (adds out' (L.take j)) ∧ OutAt h' h3.size (.slice aL L.length cL) L ∧ ∀ b ∈ blockOf v, b ∉ blockOf (.slice aL L.length cL)) ⟨F4, by simpa [adds] using O3.frm f4, oL, ?_⟩ ?_
        · intro b hb hb'
          have h1 := (own_block_old O3 (Frm.refl _ _) b hb).2
          have h2 := (own_block_old oL (Frm.refl _ _) b hb').1
          omega
        rintro j aj nj cj h5 hj ⟨F5, O5, oL5, dj⟩ I' μ' step'
        rw [cnd_if]
        by_cases hlt' : j < L.length
        · rw [if_pos (by simpa using hlt')]
          have hi' : L[j]? = some (L[j]'hlt') := List.getElem?_eq_getElem _
          generalize L[j]'hlt' = s at hi'
          obtain ⟨ad, eb, hc⟩ := oL5.strs.2 j s hi'
          have hoj := adds_length (L.take j) out'
          have : (L.take j).length ≤ j := List.length_take_le _ _
          refine ⟨by omega, by omega, ?_⟩
          rw [eb]
          refine (show onSome _ _ from ?_)
          simp only [onSome_some', Int.toNat_natCast, Nat.mul_one]
          refine ⟨s, hc, addOne (K := fun v h' => In64 ((j : Int) + 1) ∧ I' [v, .int .i64 ((j : Int) + 1)] h' ∧ μ' [v, .int .i64 ((j : Int) + 1)] h' < μ' [.slice aj nj cj, .int .i64 (j : Int)] h5) O5 (by omega) F5.1 (scontains_ok O5.strs (by have := O5.strs.1; omega) s) fun v' h6 o6 f6 hb6 => ⟨in64 (by omega) (by omega), step' v' h6 hlt' ⟨?_, ?_, ?_, ?_⟩⟩⟩
          · exact F5.young f6 fun x hx => .inr (own_block_old O5 (Frm.refl _ _) x hx).1
          · rw [List.take_add_one, hi', adds_append]; exact o6
          · exact V.Own.frm f6 oL5 fun b hb hm => dj b hm (by simpa [blockOf] using hb)
          · intro b hb hbL
            rcases hb6 b (by simpa [blockOf] using hb) with h1 | h1
            · exact dj b (by simpa [blockOf] using h1) hbL
            · have := (own_block_old oL5 (Frm.refl _ _) b hbL).2
              omega
        · rw [if_neg (by simpa using hlt')]
          refine ⟨in64 (by omega) (by omega), step _ h5 hlt ⟨F5, ?_⟩⟩
          rw [List.take_of_length_le (by omega), hfin] at O5
          exact O5
    · rw [if_neg (by simpa using hlt)]
      rw [List.take_of_length_le (by omega)] at o1
      exact ⟨_, rfl, o1, f1⟩
end Go.Proofs.Ytoldgeolocfmiaa
