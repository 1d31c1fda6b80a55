/- Loops over disks. -/
import Derived.Test.YtpekdeeagnfecaaL4
namespace Go.Proofs.Ytpekdeeagnfecaa
open Go Go.Proofs Go.Proofs.Ytpekdeeagnfecaa.V
/-- A script, call by call, whatever is answered. -/
theorem script_loop {d : Impl} {r : RefD} {s : St} {h0 h : Heap} (B : Both d r s h0 h) {k : Nat} (hs : s.Good k) {a : Option Addr} {l : Nat} {ops : List Op} (ho : OpsAt h0 a l ops) (hk : k + l < 1000000) {K : Heap → Prop} {Q : List PanicEntry → Heap → Prop}
    (hK : ∀ h', Both d r (run s ops) h0 h' → Frm (d.blocks ++ r.blocks) h h' → K h') :
    ∃ (I24 : List Value → Heap → Prop) (μ25 : List Value → Heap → Nat), I24 [(.int .i64 (0 : Int))] h ∧ ∀ (n26 : Int) (_D27 : Nat → Value) (h28 : Heap), I24 [(.int .i64 n26)] h28 → cnd (decide (n26 < ((l : Nat) : Int))) ((0 ≤ n26 ∧ n26 < ((l : Nat) : Int) ∧ onSome a fun q29 => ∃ (n30 : Int) (n31 : Int) (n32 : Int) (a33 : Option Addr) (l34 c35 : Nat), (cl h28 (q29.add ((n26 : Int).toNat * 4)) = some (.int .i64 n30) ∧ cl h28 ((q29.add ((n26 : Int).toNat * 4)).add 1) = some (.int .i64 n31) ∧ cl h28 ((q29.add ((n26 : Int).toNat * 4)).add 2) = some (.int .i64 n32) ∧ cl h28 ((q29.add ((n26 : Int).toNat * 4)).add 3) = some (.slice a33 l34 c35)) ∧ Al h28 (.cells #[(.int .i64 (0 : Int)), (.int .i64 (0 : Int)), (.int .i64 (0 : Int)), (.slice none 0 0)] 33) fun k36 h37 => StN h37 (⟨k36, 0, none⟩ : Addr) [(.int .i64 n30), (.int .i64 n31), (.int .i64 n32), (.slice a33 l34 c35)] fun h38 => ∃ (n39 : Int) (n40 : Int) (n41 : Int) (a42 : Option Addr) (l43 c44 : Nat), (cl h38 (⟨k36, 0, none⟩ : Addr) = some (.int .i64 n39) ∧ cl h38 ((⟨k36, 0, none⟩ : Addr).add 1) = some (.int .i64 n40) ∧ cl h38 ((⟨k36, 0, none⟩ : Addr).add 2) = some (.int .i64 n41) ∧ cl h38 ((⟨k36, 0, none⟩ : Addr).add 3) = some (.slice a42 l43 c44)) ∧ CallsH Try.prog 11 #[(.pointer (some ⟨d.p, 0, none⟩)), (.pointer (some ⟨r.p, 0, none⟩)), (.agg #[(.int .i64 n39), (.int .i64 n40), (.int .i64 n41), (.slice a42 l43 c44)])] h38 (endH (fun u45 h46 => ∃ (b47 : Bool), u45 = (.bool b47) ∧ (In64 (n26 + (1 : Int)) ∧ (I24 [(.int .i64 (n26 + (1 : Int)))] h46 ∧ μ25 [(.int .i64 (n26 + (1 : Int)))] h46 < μ25 [(.int .i64 n26)] h28))) Q))) (K h28) := by
  have hlen := ho.len
  have gd : ∀ m, m ≤ l → (run s (ops.take m)).Good (k + m) := fun m hm => by
    have := run_good (s := s) (k := k) (ops := ops.take m) hs fun o hq => ho.nums o (List.mem_of_mem_take hq)
    rw [List.length_take, show min m ops.length = m by omega] at this
    exact this
  refine ⟨fun vs h' => ∃ m : Nat, vs = [.int .i64 (m : Int)] ∧ m ≤ l ∧ Both d r (run s (ops.take m)) h0 h' ∧ Frm (d.blocks ++ r.blocks) h h', fun vs _ => match vs with | [.int _ m] => l - m.toNat | _ => 0, ⟨0, rfl, Nat.zero_le _, B, Frm.refl _ _⟩, ?_⟩
  rintro m' _ h4 ⟨m, e, hm, hB, f4⟩
  simp only [List.cons.injEq, Value.int.injEq, true_and, and_true] at e
  subst e
  rw [cnd_if]
  by_cases hlt : m < l
  · rw [if_pos (by simpa using hlt)]
    have hi : ops[m]? = some ops[m] := List.getElem?_eq_getElem (by omega)
    refine ⟨by omega, by omega, op_round hB.frm ho hi fun k a' l' c' h5 g5 k5 f5 b5 lt5 => ?_⟩
    refine ⟨ops[m].act, ops[m].i, ops[m].n, a', l', c', by simp [cl_at g5, add_at], ?_⟩
    refine (both_do (hB.still f5) (gd m hm) (by omega) b5 lt5).ret ?_
    rintro _ h6 ⟨rfl, hB6, f6⟩
    refine ⟨_, rfl, in64 (by omega) (by omega), ⟨m + 1, rfl, hlt, by rw [run_snoc _ _ hi]; exact hB6, f4.trans ((f5.mono (by simp)).trans f6)⟩, ?_⟩
    show l - ((m : Int) + 1).toNat < l - ((m : Int)).toNat
    omega
  · rw [if_neg (by simpa using hlt)]
    obtain rfl : m = l := by omega
    rw [List.take_of_length_le (by omega)] at hB
    exact hK _ hB f4

/-- An array of strings in a block of its own. -/
def Arr (h : Heap) (g : Nat) (t : TypeId) (n : Nat) (f : Nat → ByteArray) : Prop := ∃ cur : Array Value, h[g]? = some (.cells cur t (0, 0)) ∧ n ≤ cur.size ∧ ∀ i, i < n → cur[i]? = some (.string (f i))
theorem Arr.frm {L : List Nat} {h h' : Heap} (f : Frm L h h') {g n : Nat} {t : TypeId} {u : Nat → ByteArray} (hs : Arr h g t n u) (hn : g ∉ L) : Arr h' g t n u := by
  obtain ⟨cur, h1, h2⟩ := hs
  exact ⟨cur, f.get h1 hn, h2⟩
theorem Arr.congr {h : Heap} {g n : Nat} {t : TypeId} {u v : Nat → ByteArray} (hs : Arr h g t n u) (he : ∀ i, i < n → v i = u i) : Arr h g t n v := by
  obtain ⟨cur, h1, h2, h3⟩ := hs
  exact ⟨cur, h1, h2, fun i hi => by rw [he i hi]; exact h3 i hi⟩
theorem Arr.load {h : Heap} {g n : Nat} {t : TypeId} {u : Nat → ByteArray} (hs : Arr h g t n u) {i : Nat} (hi : i < n) : cl h ⟨g, i, none⟩ = some (.string (u i)) := by
  obtain ⟨cur, h1, h2, h3⟩ := hs
  rw [cl_at h1]; exact h3 i hi
theorem Arr.store {h : Heap} {g n : Nat} {t : TypeId} {u : Nat → ByteArray} (hs : Arr h g t n u) {i : Nat} (hi : i < n) {x : ByteArray} {K : Heap → Prop}
    (hk : ∀ h', Arr h' g t n (fun j => if j = i then x else u j) → Frm [g] h h' → K h') : St1 h ⟨g, i, none⟩ (.string x) K := by
  obtain ⟨cur, h1, h2, h3⟩ := hs
  refine st1_at h1 (by omega) rfl fun h' _ hg f _ => hk h' ⟨_, hg, by simpa using h2, fun j hj => ?_⟩ f
  by_cases e : j = i
  · subst e
    have : j < cur.size := by omega
    simp [this]
  · show _ = some (Value.string (if j = i then x else u j))
    rw [Array.getElem?_setIfInBounds_ne (fun h => e h.symm), if_neg e]; exact h3 j hj

theorem on_off (s : St) : s.on.off = false := by
  unfold St.on
  split
  · rfl
  · rename_i h; simpa using h
theorem refused_on {s : St} (h : s.off = false) {k : Int} (h0 : 0 ≤ k) (h1 : k < s.many) : s.refused k = 0 := by
  unfold St.refused
  rw [h, if_neg (by simp), if_neg (by omega)]

/-- What a Write comes to, at a disk that is on. -/
theorem write_cases {s : St} (hoff : s.off = false) (i : Int) (b : ByteArray) :
    (s.writeCode i b = 0 ∧ 0 ≤ i ∧ i < s.many ∧ b.size = 4096 ∧ s.fuse ≠ 0 ∧ s.write i b = { s.act with waits := fun y => if i = y then some b else s.waits y } ∧ s.act = { s with fuse := if 0 < s.fuse then s.fuse - 1 else s.fuse, acts := s.acts + 1 }) ∨
    (s.writeCode i b ≠ 0 ∧ s.writeCode i b ≠ 160 ∧ s.write i b = s) ∨ (s.writeCode i b = 160 ∧ s.fuse = 0 ∧ (s.write i b).off = true) := by
  have hr : s.refused i = if i < 0 ∨ s.many ≤ i then 4 else 0 := by simp [St.refused, hoff]
  by_cases h1 : i < 0 ∨ s.many ≤ i
  · rw [if_pos h1] at hr
    exact .inr (.inl ⟨by simp [St.writeCode, hr], by simp [St.writeCode, hr], by simp [St.write, hr]⟩)
  · rw [if_neg h1] at hr
    by_cases h2 : b.size = 4096
    · by_cases h3 : s.fuse = 0
      · exact .inr (.inr ⟨by simp [St.writeCode, hr, h2, St.actCode, h3], h3, by simp [St.write, hr, h2, h3, St.act]⟩)
      · exact .inl ⟨by simp [St.writeCode, hr, h2, St.actCode, h3], by omega, by omega, h2, h3, by simp [St.write, hr, h2, h3], by rw [St.act, if_neg h3]⟩
    · exact .inr (.inl ⟨by simp [St.writeCode, hr, h2], by simp [St.writeCode, hr, h2], by simp [St.write, hr, h2]⟩)

/-- The loop that keeps what is read: a disk that is on. -/
theorem keep_loop {d : Impl} {s : St} {h : Heap} (hd : d.At s h) (ho : s.Ok) (hoff : s.off = false) {g : Nat} {t : TypeId} {N : Nat} (hN : (N : Int) ≤ s.many) {u : Nat → ByteArray} (hg : Arr h g t N u) (hne : g ∉ d.blocks) {K : Heap → Prop} {Q : List PanicEntry → Heap → Prop}
    (hK : ∀ h', Arr h' g t N (fun i => s.read i) → Frm [g] h h' → K h') :
    ∃ (I57 : List Value → Heap → Prop) (μ58 : List Value → Heap → Nat), I57 [(.int .i64 (0 : Int))] h ∧ ∀ (n59 : Int) (_D60 : Nat → Value) (h61 : Heap), I57 [(.int .i64 n59)] h61 → cnd (decide (n59 < (N : Int))) (CallsH Try.prog 16 #[(.pointer (some ⟨d.p, 0, none⟩)), (.int .i64 n59)] h61 (endH (fun u62 h63 => ∃ (a64 : Option Addr) (l65 c66 : Nat) (n67 : Int), u62 = (.tuple #[(.slice a64 l65 c66), (.int .i64 n67)]) ∧ RunH Try.prog (convert 31 9 (.slice a64 l65 c66)) h63 fun u68 h69 => ∃ (s70 : ByteArray), u68 = (.string s70) ∧ (0 ≤ n59 ∧ n59 < (N : Int) ∧ St1 h69 ((⟨g, 0, none⟩ : Addr).add ((n59 : Int).toNat * 1)) (.string s70) fun h71 => (In64 (n59 + (1 : Int)) ∧ (I57 [(.int .i64 (n59 + (1 : Int)))] h71 ∧ μ58 [(.int .i64 (n59 + (1 : Int)))] h71 < μ58 [(.int .i64 n59)] h61)))) Q)) (K h61) := by
  have hm := ho.many
  have gl : g < h.size := by obtain ⟨_, h1, _⟩ := hg; exact lt_of_get h1
  have hgp : ∀ b ∈ d.blocks, b ∉ [g] := fun b hb h1 => hne (by rw [← List.mem_singleton.1 h1]; exact hb)
  refine ⟨fun vs h' => ∃ m : Nat, vs = [.int .i64 (m : Int)] ∧ m ≤ N ∧ Arr h' g t N (fun i => if i < m then s.read i else u i) ∧ Frm [g] h h', fun vs _ => match vs with | [.int _ m] => N - m.toNat | _ => 0, ⟨0, rfl, Nat.zero_le _, hg.congr fun i _ => by simp, Frm.refl _ _⟩, ?_⟩
  rintro m' _ h2 ⟨m, e, hmN, hA, f2⟩
  simp only [List.cons.injEq, Value.int.injEq, true_and, and_true] at e
  subst e
  rw [cnd_if]
  by_cases hlt : m < N
  · rw [if_pos (by simpa using hlt)]
    have hd2 := hd.frm f2 (hgp _ (by simp [Impl.blocks])) (hgp _ (by simp [Impl.blocks])) (hgp _ (by simp [Impl.blocks]))
    refine (read_ok hd2 ho m).ret ?_
    intro v h3 ⟨f3, hv⟩
    rcases hv with ⟨hc, _⟩ | ⟨_, b, rfl, hown⟩
    · exact absurd (refused_on hoff (by omega) (by omega)) hc
    refine ⟨_, _, _, _, rfl, ?_⟩
    refine conv_bytes_string Try.underlying31 Try.underlying5 Try.underlying9 hown.slRow.1 hown.slRow.2.2 ⟨_, rfl, by omega, by omega, ?_⟩
    simp only [add_at, Int.toNat_natCast, Nat.mul_one, Nat.zero_add]
    refine (hA.frm f3 (by simp)).store hlt fun h4 hA4 f4 => ⟨in64 (by omega) (by omega), ⟨m + 1, rfl, hlt, hA4.congr fun i _ => ?_, f2.trans ((f3.mono (by simp)).trans f4)⟩, ?_⟩
    · show (if i < m + 1 then s.read i else u i) = if i = m then s.read m else if i < m then s.read i else u i
      by_cases e : i = m
      · subst e; rw [if_pos (by omega), if_pos rfl]
      · rw [if_neg e]
        by_cases e2 : i < m
        · rw [if_pos (by omega), if_pos e2]
        · rw [if_neg (by omega), if_neg e2]
    · show N - ((m : Int) + 1).toNat < N - ((m : Int)).toNat
      omega
  · rw [if_neg (by simpa using hlt)]
    obtain rfl : m = N := by omega
    exact hK _ (hA.congr fun i hi => by rw [if_pos hi]) f2
end Go.Proofs.Ytpekdeeagnfecaa
