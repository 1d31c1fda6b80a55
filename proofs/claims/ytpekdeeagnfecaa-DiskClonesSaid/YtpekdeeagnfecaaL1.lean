/- The law's own functions. -/
import Derived.Test.YtpekdeeagnfecaaD
import Derived.Test.YtpekdeeagnfecaaR
import Derived.Test.YtpekdeeagnfecaaT
namespace Go.Proofs.Ytpekdeeagnfecaa
open Go Go.Proofs Go.Proofs.Ytpekdeeagnfecaa.V
/-! ## The law's own functions -/

structure Op where
  act : Int
  i : Int
  n : Int
  b : ByteArray

def fullB (c : Int) : ByteArray := ⟨Array.replicate 4096 (UInt8.ofNat c.toNat)⟩
def Op.data (o : Op) : ByteArray := if o.act = 1 then o.b else fullB (IntKind.wrap .u8 o.n)
theorem fullB_size (c : Int) : (fullB c).size = 4096 := by simp [fullB, ByteArray.size]
theorem bv_fullB {c : Int} (h0 : 0 ≤ c) (h1 : c < 256) : bv (fullB c) = List.replicate 4096 (.int .u8 c) := by
  simp only [bv, fullB, Array.toList_replicate, List.map_replicate]
  congr 2
  rw [UInt8.toNat_ofNat']
  omega

set_option maxRecDepth 20000 in
theorem full_ok (c : Int) (h0 : 0 ≤ c) (h1 : c < 256) (h : Heap) :
    CallsH Try.prog 34 #[.int .u8 c] h (fun e h' => ∃ v, e = .returned v ∧ Own h' h.size 5 1 v 4096 (bv (fullB c)) ∧ Frm [] h h') := by
  refine c34 _ _ _ ⟨by decide, by decide, by decide, al_intro fun ha ea ga fa sa => ?_⟩
  refine ⟨fun vs h2 => ∃ n : Nat, vs = [.int .i64 (n : Int)] ∧ n ≤ 4096 ∧ h2[h.size]? = some (.cells (List.replicate n (Value.int .u8 c) ++ List.replicate (4096 - n) (Value.int .u8 0)).toArray 5 (0, 0)) ∧ Frm [] h h2,
    fun vs _ => match vs with | [.int _ n] => 4096 - n.toNat | _ => 0, ?_, ?_⟩
  · have key : ∀ n : Nat, madeCells #[.int .u8 (0 : Int)] n = (List.replicate 0 (Value.int .u8 c) ++ List.replicate (n - 0) (Value.int .u8 0)).toArray := fun n => by rw [made_one]; simp
    exact ⟨0, rfl, by omega, ga.trans (by rw [show (Int.toNat 4096 * 1) = 4096 from rfl, key 4096]), fa⟩
  · rintro n' _ h2 ⟨n, e, hn, hg, f2⟩
    simp only [List.cons.injEq, Value.int.injEq, true_and, and_true] at e
    subst e
    rw [cnd_if]
    by_cases hlt : n < 4096
    · rw [if_pos (by show decide ((n : Int) < ((4096 : Nat) : Int)) = true; rw [decide_eq_true_eq]; omega)]
      refine ⟨by omega, by show (n : Int) < ((4096 : Nat) : Int); omega, ?_⟩
      simp only [add_at, Int.toNat_natCast, Nat.mul_one, Nat.zero_add]
      refine st1_at hg (by rw [List.size_toArray, List.length_append, List.length_replicate, List.length_replicate]; omega) rfl fun h3 e3 g3 f3 s3 => ⟨in64 (by omega) (by omega), ⟨n + 1, rfl, hlt, ?_, f2.young f3 (by simp)⟩, ?_⟩
      · rw [g3]
        congr 2
        apply Array.ext'
        simp only [Array.toList_setIfInBounds, List.toList_toArray]
        rw [List.set_append_right _ _ (by rw [List.length_replicate]; exact Nat.le_refl _), List.length_replicate, Nat.sub_self]
        rw [show 4096 - n = (4096 - (n + 1)) + 1 by omega, List.replicate_succ, List.set_cons_zero]
        rw [List.replicate_succ', List.append_assoc]
        rfl
      · show 4096 - ((n : Int) + 1).toNat < 4096 - ((n : Int)).toNat
        omega
    · rw [if_neg (by show ¬ decide ((n : Int) < ((4096 : Nat) : Int)) = true; rw [decide_eq_true_eq]; omega)]
      have e4 : n = 4096 := by omega
      have key : ∀ m : Nat, m = n → (List.replicate n (Value.int .u8 c) ++ List.replicate (m - n) (Value.int .u8 0)) = List.replicate m (Value.int .u8 c) := fun m hm => by subst hm; simp
      rw [key 4096 e4.symm] at hg
      refine ⟨_, rfl, ⟨by rw [bv_length, fullB_size], .inr ⟨h.size, 4096, _, rfl, Nat.le_refl _, hg, Nat.le_refl _, by decide, by rw [List.size_toArray, List.length_replicate], ?_⟩⟩, f2⟩
      rw [bv_fullB h0 h1]
      exact List.take_of_length_le (by rw [List.length_replicate]; exact Nat.le_refl _)

theorem wrap_u8 (n : Int) : 0 ≤ IntKind.wrap .u8 n ∧ IntKind.wrap .u8 n < 256 := by
  have e : IntKind.wrap .u8 n = n % 256 := by
    simp [IntKind.wrap, IntKind.signed, IntKind.bits]
  rw [e]; omega

theorem byte_info : (Try.prog.info? 5).map (fun i => (i.zero, i.size, i.bytes)) = some (some (.int .u8 0), 1, 1) := by kernel_rfl

theorem bytes_ok {o : Op} {a : Option Addr} {l c : Nat} {h : Heap} (hb : BytesAt h a l o.b) :
    CallsH Try.prog 18 #[.agg #[.int .i64 o.act, .int .i64 o.i, .int .i64 o.n, .slice a l c]] h (fun e h' => ∃ v, e = .returned v ∧ Own h' h.size 5 1 v o.data.size (bv o.data) ∧ Frm [] h h') := by
  refine c18 _ _ _ _ _ _ _ _ ?_
  refine al_intro fun ha ea ga fa sa => ?_
  simp only [add_at, cl_at ga, cnd_if]
  refine ⟨o.act, by simp, ?_⟩
  by_cases h1 : o.act = 1
  · rw [if_pos (by simp [h1])]
    refine ⟨a, l, c, by simp, ?_⟩
    have hb' := hb.frm fa (by simp)
    obtain ⟨i, hi, he⟩ := Option.map_eq_some_iff.1 byte_info
    simp only [Prod.mk.injEq] at he
    have hl := hb.len
    refine append_sl (t := 31) Try.underlying31 hi he.1 he.2.1 he.2.2 rfl (by omega) (Own.nil ha h.size 5 1) (m := l) (news := bv o.b) (by rw [Nat.mul_one]; exact hb.row.1) hb'.row.2 ?_ (by omega) (by simp only [maxLen]; omega) (by omega) ?_
    · intro u hu
      obtain ⟨x, _, rfl⟩ := List.mem_map.1 hu
      rfl
    · intro v' h2 ho2 f2 _
      rw [Nat.zero_add, List.nil_append] at ho2
      obtain ⟨a', c', rfl⟩ := ho2.slice
      refine ⟨a', _, c', rfl, _, rfl, ?_, fa.trans f2⟩
      have e : o.data = o.b := by simp [Op.data, h1]
      rw [e, show o.b.size = l by rw [← bv_length]; exact hb.row.1]
      exact ho2
  · rw [if_neg (by simp [h1])]
    refine ⟨o.n, by simp, ?_⟩
    obtain ⟨w0, w1⟩ := wrap_u8 o.n
    refine (full_ok _ w0 w1 _).ret ?_
    intro v h2 ⟨ho, f2⟩
    obtain ⟨a', c', rfl⟩ := ho.slice
    refine ⟨a', _, c', rfl, _, rfl, ?_, fa.trans f2⟩
    rw [show o.data = fullB (IntKind.wrap .u8 o.n) by simp [Op.data, h1], fullB_size]
    exact ho.base (by omega)

theorem same_ok {a b : Option Addr} {l m c d : Nat} {s t : ByteArray} {h : Heap} (hs : SlRow h a l (bv s)) (ht : SlRow h b m (bv t)) (ha : ∀ ad, a = some ad → ad.spot = none) (hb : ∀ ad, b = some ad → ad.spot = none) :
    CallsH Try.prog 25 #[.slice a l c, .slice b m d] h (fun e h' => ∃ v, e = .returned v ∧ v = .bool (s.toList == t.toList) ∧ h' = h) := by
  refine c25 _ _ _ _ _ _ _ _ ?_
  refine conv_bytes_string Try.underlying31 Try.underlying5 Try.underlying9 hs ha ⟨s, rfl, ?_⟩
  exact conv_bytes_string Try.underlying31 Try.underlying5 Try.underlying9 ht hb ⟨t, rfl, _, rfl, rfl, rfl⟩
theorem same_self (s : ByteArray) : (s.toList == s.toList) = true := by simp

theorem sameInts_ok {a b : Option Addr} {c d : Nat} {l : List Int} {h : Heap} (hs : SlRow h a l.length (l.map KI)) (ht : SlRow h b l.length (l.map KI)) (hl : l.length ≤ 1000000) :
    CallsH Try.prog 24 #[.slice a l.length c, .slice b l.length d] h (fun e h' => ∃ v, e = .returned v ∧ v = .bool true ∧ h' = h) := by
  refine c24 _ _ _ _ _ _ _ _ ?_
  rw [cnd_if, if_neg (by simp)]
  refine ⟨fun vs h2 => ∃ n : Nat, vs = [.int .i64 (n : Int)] ∧ n ≤ l.length ∧ h2 = h, fun vs _ => match vs with | [.int _ n] => l.length - n.toNat | _ => 0, ⟨0, rfl, Nat.zero_le _, rfl⟩, ?_⟩
  rintro n' _ h2 ⟨n, e, hn, e2⟩
  rw [e2]; clear e2
  simp only [List.cons.injEq, Value.int.injEq, true_and, and_true] at e
  subst e
  rw [cnd_if]
  by_cases hlt : n < l.length
  · rw [if_pos (by simpa using hlt)]
    rcases hs.2 with h0 | ⟨p, rfl, hp⟩
    · omega
    rcases ht.2 with h0 | ⟨q, rfl, hq⟩
    · omega
    have hr : (l.map KI)[n]? = some (KI l[n]) := by rw [List.getElem?_map, List.getElem?_eq_getElem hlt]; rfl
    refine ⟨by omega, by omega, (show onSome _ _ from ?_)⟩
    simp only [onSome_some', Int.toNat_natCast, Nat.mul_one]
    refine ⟨_, hp n _ hr, by omega, by omega, ⟨_, hq n _ hr, ?_⟩⟩
    rw [cnd_if, if_neg (by simp)]
    refine ⟨in64 (by omega) (by omega), ⟨n + 1, rfl, hlt, trivial⟩, ?_⟩
    show l.length - ((n : Int) + 1).toNat < l.length - ((n : Int)).toNat
    omega
  · rw [if_neg (by simpa using hlt)]
    exact ⟨_, rfl, rfl, rfl⟩
end Go.Proofs.Ytpekdeeagnfecaa
