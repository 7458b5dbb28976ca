/- Contracts of what FractionsWritten reaches, part 1: a number's digits. -/
import Derived.Test.YtdjancoknephnaaDoorVcFwDec
set_option linter.unusedSimpArgs false
set_option linter.unusedVariables false
namespace Go.Proofs.YtdjancoknephnaaDoorVc
open Go.Proofs.Tryd (prog)

theorem digs_at {u len n k t v : Nat} (hn : n ≤ len) (hk : k + t + 1 = n) (hv : v = u / 10 ^ (len - n) / 10 ^ t % 10) : (digs u len)[k]? = some (.int .u8 ((48 + v : Nat) : Int)) := by
  rw [digs_get (by omega), digit, show len - 1 - k = (len - n) + t by omega, Nat.pow_add, ← Nat.div_div_eq_div_mul, hv]

theorem parts8 (m : Nat) : ((IntKind.u32.wrap ((m : Int).tmod 100000000)).tmod 10000).tmod 100 = ((m % 100 : Nat) : Int) ∧
    IntKind.u32.wrap (((IntKind.u32.wrap ((m : Int).tmod 100000000)).tmod 10000).tdiv 100) = ((m / 100 % 100 : Nat) : Int) ∧
    (IntKind.u32.wrap ((IntKind.u32.wrap ((m : Int).tmod 100000000)).tdiv 10000)).tmod 100 = ((m / 10000 % 100 : Nat) : Int) ∧
    IntKind.u32.wrap ((IntKind.u32.wrap ((IntKind.u32.wrap ((m : Int).tmod 100000000)).tdiv 10000)).tdiv 100) = ((m / 1000000 % 100 : Nat) : Int) := by
  have h1 : IntKind.u32.wrap ((m : Int).tmod 100000000) = ((m % 100000000 : Nat) : Int) := by
    rw [show (100000000 : Int) = ((100000000 : Nat) : Int) from rfl, tmodN, wN32 (by omega)]
  rw [h1, show (10000 : Int) = ((10000 : Nat) : Int) from rfl, show (100 : Int) = ((100 : Nat) : Int) from rfl]
  simp only [tmodN, tdivN]
  rw [wN32 (by omega : m % 100000000 % 10000 / 100 < 4294967296), wN32 (by omega : m % 100000000 / 10000 < 4294967296)]
  simp only [tmodN, tdivN]
  rw [wN32 (by omega : m % 100000000 / 10000 / 100 < 4294967296)]
  refine ⟨?_, ?_, ?_, ?_⟩ <;> omega
theorem parts4 {m : Nat} (hm : m < 100000000) : ((IntKind.u32.wrap (m : Int)).tmod 10000).tmod 100 = ((m % 100 : Nat) : Int) ∧
    IntKind.u32.wrap (((IntKind.u32.wrap (m : Int)).tmod 10000).tdiv 100) = ((m / 100 % 100 : Nat) : Int) ∧
    IntKind.u32.wrap ((IntKind.u32.wrap (m : Int)).tdiv 10000) = ((m / 10000 : Nat) : Int) := by
  rw [wN32 (by omega), show (10000 : Int) = ((10000 : Nat) : Int) from rfl, show (100 : Int) = ((100 : Nat) : Int) from rfl]
  simp only [tmodN, tdivN]
  rw [wN32 (by omega : m % 10000 / 100 < 4294967296), wN32 (by omega : m / 10000 < 4294967296)]
  refine ⟨?_, ?_, ?_⟩ <;> omega

theorem at0 {t : Nat} (ht : t < 100) : 0 ≤ IntKind.u32.wrap ((t : Int) * 2) ∧ IntKind.u32.wrap ((t : Int) * 2) < ((200 : Nat) : Int) := by rw [pair0 ht]; omega
theorem at1 {t : Nat} (ht : t < 100) : 0 ≤ IntKind.u32.wrap (IntKind.u32.wrap ((t : Int) * 2) + 1) ∧ IntKind.u32.wrap (IntKind.u32.wrap ((t : Int) * 2) + 1) < ((200 : Nat) : Int) := by rw [pair1 ht]; omega
theorem set_self {h : Heap} {i : Nat} {o : Obj} (hi : h i = some o) : h.set i o = h := by
  funext j
  by_cases e : j = i
  · subst e; rw [set_eq, hi]
  · rw [set_ne _ _ e]

section
variable {I : Calls} {h : Heap}

theorem spec84 {i o len u : Nat} {cs : List Cell} {Q : Post} (hI : ∀ A F, denF prog 0 A I 84 [V.one (Cell.slice 1 ⟨some (i, o), len⟩), V.one (Cell.int .u64 (u : Int))] Q = F → F h → I 84 [V.one (Cell.slice 1 ⟨some (i, o), len⟩), V.one (Cell.int .u64 (u : Int))] Q h)
    (hi : h i = some (.cells false cs)) (hr : o + len ≤ cs.length) (hl : len ≤ 24) (hu : u < 10 ^ len) (hu64 : u < 18446744073709551616)
    (hQ : Q [] (h.set i (.cells false (cs.take o ++ digs u len ++ cs.drop (o + len))))) :
    I 84 [V.one (Cell.slice 1 ⟨some (i, o), len⟩), V.one (Cell.int .u64 (u : Int))] Q h := by
  refine hI _ _ (den84 I _ _ Q) ?_
  unfold vc84
  refine loopK_intro (fun p h' m => ∃ n cs', p.2 = ((n : Nat) : Int) ∧ p.1 = ((u / 10 ^ (len - n) : Nat) : Int) ∧ Dg cs (digs u len) o len cs' n ∧ h' = h.set i (.cells false cs') ∧ m = n) len
    ⟨len, cs, rfl, by simp, Dg.start hr (digs_len _ _), (set_self hi).symm, rfl⟩ ?_
  rintro ⟨n3, n4⟩ h' n ⟨_, cs', e1, e2, J, rfl, rfl⟩
  simp only at e1 e2
  subst e1; subst e2
  have hn := J.le
  have hd : ∀ k t v : Nat, k + t + 1 = n → v = u / 10 ^ (len - n) / 10 ^ t % 10 → (digs u len)[k]? = some (.int .u8 ((48 + v : Nat) : Int)) := fun k t v h1 h2 => digs_at hn h1 h2
  have hmu : u / 10 ^ (len - n) < 10 ^ n := by
    rw [Nat.div_lt_iff_lt_mul (Nat.pow_pos (by omega)), ← Nat.pow_add, show n + (len - n) = len by omega]
    exact hu
  have hmle : u / 10 ^ (len - n) ≤ u := Nat.div_le_self _ _
  generalize hm : u / 10 ^ (len - n) = m at hd hmu hmle ⊢
  obtain ⟨p0, p1, p2, p3⟩ := parts8 m
  refine ifT_dec (fun hge => ?_) fun hlt => ?_
  · obtain ⟨r, rfl⟩ : ∃ r, n = r + 8 := ⟨n - 8, by omega⟩
    have l0 : m % 100 < 100 := by omega
    have l1 : m / 100 % 100 < 100 := by omega
    have l2 : m / 10000 % 100 < 100 := by omega
    have l3 : m / 1000000 % 100 < 100 := by omega
    simp only [p0, p1, p2, p3, small0 l0, small1 l0, small0 l1, small1 l1, small0 l2, small1 l2, small0 l3, small1 l3]
    refine ⟨at1 l0, at0 l0, put1 J (k := r + 7) (by rw [w64] <;> omega) (hd _ 0 _ (by omega) (by omega)) fun c1 J => ?_⟩
    refine put1 J (k := r + 6) (by rw [w64] <;> omega) (hd _ 1 _ (by omega) (by omega)) fun c1 J => ?_
    refine ⟨at1 l1, at0 l1, put1 J (k := r + 5) (by rw [w64] <;> omega) (hd _ 2 _ (by omega) (by omega)) fun c1 J => ?_⟩
    refine put1 J (k := r + 4) (by rw [w64] <;> omega) (hd _ 3 _ (by omega) (by omega)) fun c1 J => ?_
    refine ⟨at1 l2, at0 l2, put1 J (k := r + 3) (by rw [w64] <;> omega) (hd _ 4 _ (by omega) (by omega)) fun c1 J => ?_⟩
    refine put1 J (k := r + 2) (by rw [w64] <;> omega) (hd _ 5 _ (by omega) (by omega)) fun c1 J => ?_
    refine ⟨at1 l3, at0 l3, put1 J (k := r + 1) (by rw [w64] <;> omega) (hd _ 6 _ (by omega) (by omega)) fun c1 J => ?_⟩
    refine put1 J (k := r) (by rw [w64] <;> omega) (hd _ 7 _ (by omega) (by omega)) fun c1 J => ?_
    refine ⟨r, by omega, r, c1, by rw [w64] <;> omega, ?_, J, rfl, rfl⟩
    rw [show (100000000 : Int) = ((100000000 : Nat) : Int) from rfl, tdivN, wu64 (by omega) (by omega), ← hm, Nat.div_div_eq_div_mul, show (100000000 : Nat) = 10 ^ 8 from rfl, ← Nat.pow_add, show len - (r + 8) + 8 = len - r by omega]
  · have hn8 : n < 8 := by omega
    have hm8 : m < 100000000 := Nat.lt_of_lt_of_le hmu (Nat.pow_le_pow_right (n := 10) (by omega) (by omega : n ≤ 8))
    obtain ⟨q0, q1, q2⟩ := parts4 hm8
    refine joinK_intro (fun p h' => ∃ n m cs', n < 4 ∧ p.1 = ((n : Nat) : Int) ∧ p.2 = ((m : Nat) : Int) ∧ m < 10000 ∧ u / 10 ^ (len - n) = m ∧ m < 10 ^ n ∧ Dg cs (digs u len) o len cs' n ∧ h' = h.set i (.cells false cs')) ?_ fun j hj => ?_
    · clear hd hmu hmle hm hm8 q0 q1 q2 p0 p1 p2 p3 hlt hn8 J hn m n cs'
      rintro ⟨n3, n4⟩ h' ⟨n, m, cs', hn4, e1, e2, hm4, hm, hmu, J, rfl⟩
      simp only at e1 e2
      subst e1; subst e2
      have hn := J.le
      have hd : ∀ k t v : Nat, k + t + 1 = n → v = m / 10 ^ t % 10 → (digs u len)[k]? = some (.int .u8 ((48 + v : Nat) : Int)) := fun k t v h1 h2 => digs_at hn h1 (by rw [hm]; exact h2)
      refine joinK_intro (fun p h' => ∃ n m cs', n < 2 ∧ p.1 = ((n : Nat) : Int) ∧ p.2 = ((m : Nat) : Int) ∧ u / 10 ^ (len - n) = m ∧ m < 10 ^ n ∧ Dg cs (digs u len) o len cs' n ∧ h' = h.set i (.cells false cs')) ?_ fun j hj => ?_
      · clear hd hmu hm hm4 hn4 J hn m n cs'
        rintro ⟨n3, n4⟩ h' ⟨n, m, cs', hn2, e1, e2, hm, hmu, J, rfl⟩
        simp only at e1 e2
        subst e1; subst e2
        have hn := J.le
        refine ifT_dec (fun hp => ?_) fun hp => ?_
        · obtain rfl : n = 1 := by omega
          have hm10 : m < 10 := by simpa using hmu
          have hc : (digs u len)[0]? = some (.int .u8 ((48 + m : Nat) : Int)) := digs_at (n := 1) (t := 0) hn rfl (by rw [hm]; omega)
          have hv : IntKind.u8.wrap (IntKind.u32.wrap (48 + (m : Int))) = ((48 + m : Nat) : Int) := by
            rw [wu32 (by omega) (by omega)]
            unfold IntKind.wrap
            simp [IntKind.bits, IntKind.signed]
            omega
          rw [hv]
          have := put1 (i := i) (F := h) (K := Q []) (y := 0) J (k := 0) rfl hc fun c2 J2 => by rw [J2.done] ; exact hQ
          simpa using this
        · obtain rfl : n = 0 := by omega
          show Q [] _
          rw [J.done]
          exact hQ
      · refine ifT_dec (fun hp => ?_) fun hp => ?_
        · obtain ⟨r, rfl⟩ : ∃ r, n = r + 2 := ⟨n - 2, by omega⟩
          have l0 : m % 100 < 100 := by omega
          have e1 : (m : Int).tmod 100 = ((m % 100 : Nat) : Int) := by rw [show (100 : Int) = ((100 : Nat) : Int) from rfl, tmodN]
          have e2 : IntKind.u32.wrap ((m : Int).tdiv 100) = ((m / 100 : Nat) : Int) := by rw [show (100 : Int) = ((100 : Nat) : Int) from rfl, tdivN, wN32 (by omega)]
          simp only [e1, e2, small0 l0, small1 l0]
          refine ⟨at1 l0, at0 l0, put1 J (k := r + 1) (by rw [w64] <;> omega) (hd _ 0 _ (by omega) (by omega)) fun c1 J => ?_⟩
          refine put1 J (k := r) (by rw [w64] <;> omega) (hd _ 1 _ (by omega) (by omega)) fun c1 J => ?_
          refine hj _ _ ⟨r, m / 100, c1, by omega, by rw [w64] <;> omega, rfl, ?_, ?_, J, rfl⟩
          · rw [← hm, Nat.div_div_eq_div_mul, show (100 : Nat) = 10 ^ 2 from rfl, ← Nat.pow_add, show len - (r + 2) + 2 = len - r by omega]
          · rw [Nat.div_lt_iff_lt_mul (by omega)]
            rw [Nat.pow_add] at hmu
            exact hmu
        · exact hj _ _ ⟨n, m, cs', by omega, rfl, rfl, hm, hmu, J, rfl⟩
    · refine ifT_dec (fun hp => ?_) fun hp => ?_
      · obtain ⟨r, rfl⟩ : ∃ r, n = r + 4 := ⟨n - 4, by omega⟩
        have l0 : m % 100 < 100 := by omega
        have l1 : m / 100 % 100 < 100 := by omega
        simp only [q0, q1, q2, small0 l0, small1 l0, small0 l1, small1 l1]
        refine ⟨at1 l0, at0 l0, put1 J (k := r + 3) (by rw [w64] <;> omega) (hd _ 0 _ (by omega) (by omega)) fun c1 J => ?_⟩
        refine put1 J (k := r + 2) (by rw [w64] <;> omega) (hd _ 1 _ (by omega) (by omega)) fun c1 J => ?_
        refine ⟨at1 l1, at0 l1, put1 J (k := r + 1) (by rw [w64] <;> omega) (hd _ 2 _ (by omega) (by omega)) fun c1 J => ?_⟩
        refine put1 J (k := r) (by rw [w64] <;> omega) (hd _ 3 _ (by omega) (by omega)) fun c1 J => ?_
        refine hj _ _ ⟨r, m / 10000, c1, by omega, by rw [w64] <;> omega, rfl, by omega, ?_, ?_, J, rfl⟩
        · rw [← hm, Nat.div_div_eq_div_mul, show (10000 : Nat) = 10 ^ 4 from rfl, ← Nat.pow_add, show len - (r + 4) + 4 = len - r by omega]
        · rw [Nat.div_lt_iff_lt_mul (by omega)]
          rw [Nat.pow_add] at hmu
          exact hmu
      · have hm4 : m < 10000 := Nat.lt_of_lt_of_le hmu (Nat.pow_le_pow_right (n := 10) (by omega) (by omega : n ≤ 4))
        exact hj _ _ ⟨n, m, cs', by omega, rfl, wN32 (by omega), hm4, hm, hmu, J, rfl⟩
end
end Go.Proofs.YtdjancoknephnaaDoorVc
