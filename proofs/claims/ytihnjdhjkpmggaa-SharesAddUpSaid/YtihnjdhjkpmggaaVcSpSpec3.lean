/- Contracts of what SharesAddUp reaches, part 3: the law. -/
import Derived.Test.YtihnjdhjkpmggaaVcSpSpec2
set_option linter.unusedSimpArgs false
set_option linter.unusedVariables false
namespace Go.Proofs.YtihnjdhjkpmggaaVc
open Go.Proofs.YtihnjdhjkpmggaaShares
open Go.Proofs.Try (prog)

/-- Two cells an element. -/
def twos (ps : List (Int × Int)) : List Cell := ps.flatMap fun p => [.int .i64 p.1, .int .i64 p.2]
theorem twos_length : ∀ ps, (twos ps).length = ps.length * 2
  | [] => rfl
  | p :: ps => by
    have := twos_length ps
    unfold twos at *
    rw [List.flatMap_cons, List.length_append, this]
    simp; omega
theorem twos_get : ∀ (ps : List (Int × Int)) (i : Nat) (a b : Int), ps[i]? = some (a, b) → ((twos ps).drop (i * 2)).take 2 = [.int .i64 a, .int .i64 b]
  | [], i, _, _, h => by simp at h
  | p :: ps, 0, a, b, h => by
    simp only [List.getElem?_cons_zero, Option.some.injEq] at h
    subst h
    simp [twos]
  | p :: ps, i + 1, a, b, h => by
    have := twos_get ps i a b (by simpa using h)
    unfold twos at *
    rw [List.flatMap_cons, show (i + 1) * 2 = i * 2 + 2 by omega]
    rw [List.drop_append]
    simpa using this

section
variable {I : Calls} {Q : Post} {h : Heap}

theorem At.two {s : Sl} {ps : List (Int × Int)} {i : Nat} {a b : Int} {f : Nat → Nat → T} (hs : At h 2 s (twos ps)) (hx : ps[i]? = some (a, b)) (hk : ∀ bb o, h.read bb (o + (i : Int).toNat * 2) 2 = some [.int .i64 a, .int .i64 b] → f bb o h) : derefK s.a f h := by
  have hlt : i < ps.length := (List.getElem?_eq_some_iff.1 hx).1
  obtain ⟨bb, o, ha, hr⟩ := hs.lies (by rw [twos_length]; omega)
  refine derefK_intro ha (hk bb o ?_)
  rw [Int.toNat_natCast, read_part hr (by rw [twos_length]; omega), twos_get ps i a b hx]

theorem spec57 (hI : Closed' prog Pm I) {s : Sl} {c : Nat} {xs : List Int} (hs : At h 1 s (ints xs)) (hc : c ≤ 1000000000000)
    (hQe : errW xs ≠ 0 → Q [.one (.slice 1 ⟨none, 0⟩), int (errW xs)] h) (hQ : errW xs = 0 → RightW xs (xs.map Int.toNat) → ∀ s' h' ys, Ext h h' → At h' 1 s' (nats ys) → ys.length = xs.length → ys.sum = c → Q [.one (.slice 1 s'), int 0] h') :
    I 57 [int c, .one (.slice 1 s)] Q h := by
  refine hI.go _ _ (den57 I c s Q) ?_
  refine spec65 hI ⟨_, rfl, ifT_intro (fun hb => by simp at hb; omega) fun _ => ?_⟩
  refine spec106 hI hs (fun he => ⟨_, rfl, ifT_intro (fun _ => hQe he) fun h => by simp [he] at h⟩) fun he R => ⟨_, rfl, ifT_intro (fun h => by simp at h) fun _ => ?_⟩
  have hs' := hs
  rw [R.xs, ← nats_ints] at hs'
  exact spec107 hI hs' hc R.ws1 R.pos R.len fun s' h' ys h1 h2 h3 h4 => ⟨_, rfl, hQ he R _ _ ys h1 h2 (by rw [h3]; simp) h4⟩

/-- The fractions of weights. -/
def fracs (all : Nat) (ws : List Nat) : List (Int × Int) := ws.map fun w => (((w / Nat.gcd w all : Nat) : Int), ((all / Nat.gcd w all : Nat) : Int))

theorem spec56 (hI : Closed' prog Pm I) {s : Sl} {xs : List Int} (hs : At h 1 s (ints xs))
    (hQe : errW xs ≠ 0 → Q [.one (.slice 2 ⟨none, 0⟩), int (errW xs)] h) (hQ : errW xs = 0 → RightW xs (xs.map Int.toNat) → ∀ s' h', Ext h h' → At h' 2 s' (twos (fracs (xs.map Int.toNat).sum (xs.map Int.toNat))) → Q [.one (.slice 2 s'), int 0] h') :
    I 56 [.one (.slice 1 s)] Q h := by
  refine hI.go _ _ (den56 I s Q) ?_
  refine spec106 hI hs (fun he => ⟨_, rfl, ifT_intro (fun _ => hQe he) fun h => by simp [he] at h⟩) fun he R => ⟨_, rfl, ifT_intro (fun h => by simp at h) fun _ => ?_⟩
  have hs' := hs
  rw [R.xs, ← nats_ints] at hs'
  have hQ' := hQ he R
  obtain ⟨_, r1, r2, r3⟩ := R
  generalize xs.map Int.toNat = ws at *
  have hl : s.len = ws.length := by rw [hs'.len1, nats_length]
  have hsum := sum_le r1
  refine spec61 hI hs' (by omega) (by omega) ⟨_, rfl, ?_⟩
  generalize hall : ws.sum = all at *
  refine loopK_intro (fun (a : Sl × Int) h'' m => ∃ k : Nat, k ≤ ws.length ∧ ws.length - k = m ∧ a.2 = (k : Int) ∧ Own h h'' 2 a.1 (twos (fracs all (ws.take k)))) ws.length
    ⟨0, by omega, rfl, rfl, Own.nil _ _⟩ ?_
  rintro ⟨l, y⟩ h2 m ⟨k, hk, rfl, rfl, o⟩
  dsimp only [uncur]
  refine ifT_dec (fun hlt => ⟨⟨by omega, hlt⟩, ?_⟩) (fun hge => ?_)
  · have hkl : k < ws.length := by omega
    have hx := List.getElem?_eq_getElem hkl
    have hwk := r1 ws[k] (List.getElem_mem hkl)
    generalize ws[k] = w at *
    refine (o.ext.at_ hs').cell (nats_get hx) fun b o' hr => ⟨_, hr, spec64 hI (by omega) (by omega) r2 ⟨_, _, rfl, ?_⟩⟩
    have hol := o.len
    rw [twos_length] at hol
    have hfl : (fracs all (ws.take k)).length = k := by simp [fracs]; omega
    rw [hfl] at hol
    change l.len * 2 = k * 2 at hol
    have e1 : twos (fracs all (ws.take (k + 1))) = twos (fracs all (ws.take k)) ++ [.int .i64 ((w / Nat.gcd w all : Nat) : Int), .int .i64 ((all / Nat.gcd w all : Nat) : Int)] := by
      have : ws.take (k + 1) = ws.take k ++ [w] := by rw [List.take_add_one, hx]; rfl
      rw [this]
      simp [twos, fracs]
    refine appendTo_own (m := 0) o (by rfl) (by omega) fun s' h3 o3 hl3 => ⟨ws.length - (k + 1), by omega, k + 1, by omega, rfl, ?_, by rw [e1]; exact o3⟩
    show IntKind.i64.wrap ((k : Int) + 1) = _
    rw [w64] <;> omega
  · have : k = ws.length := by omega
    subst this
    rw [List.take_length] at o
    exact hQ' _ _ o.ext o.at_

/-- The law. -/
theorem spec11 (hI : Closed' prog Pm I) {s : Sl} {zs : List Int} {n : Int} (hs : At h 1 s (ints zs)) : I 11 [.one (.slice 1 s), int n] tru h := by
  refine hI.go _ _ (den11 I s n tru) ?_
  refine newK_intro fun i2 h1 hn1 he1 => ?_
  have S0 : Strm h1 i2 s zs 0 := he1 ▸ Strm.make hs hn1
  refine spec54 hI S0 (by decide) fun l h2 xs hx hlen => ⟨l, rfl, ?_⟩
  refine spec55 hI (by decide) (by decide) fun c hc0 hc1 => ⟨c, rfl, ?_⟩
  obtain ⟨c, rfl⟩ := Int.eq_ofNat_of_zero_le hc0
  refine spec56 hI hx (fun he => ⟨_, _, rfl, ?_⟩) fun he R s1 h3 hext hat => ⟨_, _, rfl, ?_⟩
  · refine spec57 hI hx (by omega) (fun _ => ⟨_, _, rfl, ifT_intro (fun h => by simp at h) fun _ => ifT_intro (fun _ => spec15 hI ⟨true, rfl, rfl⟩) fun h => by simp [he] at h⟩) fun he' => absurd he' he
  · refine spec57 hI (hext.at_ hx) (by omega) (fun he' => absurd he he') fun _ _ s2 h4 ys hext2 hat2 hyl hys => ⟨_, _, rfl, ifT_intro (fun h => by simp at h) fun _ => ifT_intro (fun h => by simp at h) fun _ => ?_⟩
    have hx4 := hext2.at_ (hext.at_ hx)
    rw [R.xs, ← nats_ints] at hx4
    have hat4 := hext2.at_ hat
    obtain ⟨_, r1, r2, r3⟩ := R
    have hlx : (xs.map Int.toNat).length = xs.length := by simp
    generalize xs.map Int.toNat = ws at *
    have hsum := sum_le r1
    have hl : l.len = ws.length := by rw [hx4.len1, nats_length]
    refine spec58 hI hx4 (by omega) (by omega) ⟨_, rfl, ?_⟩
    generalize hall : ws.sum = all at *
    have hl1 : s1.len = ws.length := by
      have := hat4.1
      rw [twos_length] at this
      have h5 : (fracs all ws).length = ws.length := by simp [fracs]
      omega
    refine loopK_intro (fun (a : Int × Int) h' m => h' = h4 ∧ ∃ i : Nat, i ≤ ws.length ∧ a = ((((ws.take i).sum : Nat) : Int), (i : Int)) ∧ ws.length - i = m) ws.length ⟨rfl, 0, by omega, rfl, rfl⟩ ?_
    rintro a h' m ⟨rfl, i, hi, rfl, rfl⟩
    dsimp only [uncur]
    refine ifT_dec (fun hlt => ⟨⟨by omega, hlt⟩, ?_⟩) (fun hge => ?_)
    · have hil : i < ws.length := by omega
      have hxi := List.getElem?_eq_getElem hil
      have hst := sum_step hil
      have htl := take_sum_le ws (i + 1)
      rw [hst] at htl
      generalize ws[i] = w at *
      have hg : (fracs all ws)[i]? = some (((w / Nat.gcd w all : Nat) : Int), ((all / Nat.gcd w all : Nat) : Int)) := by
        unfold fracs; rw [List.getElem?_map, hxi]; rfl
      have hg1 : 0 < Nat.gcd w all := Nat.gcd_pos_of_pos_right _ r2
      have d1 := Nat.div_mul_cancel (Nat.gcd_dvd_left w all)
      have d2 := Nat.div_mul_cancel (Nat.gcd_dvd_right w all)
      generalize Nat.gcd w all = g at *
      have lw : w / g ≤ w := Nat.div_le_self _ _
      have la : all / g ≤ all := Nat.div_le_self _ _
      have hd : 0 < all / g := by
        rcases Nat.eq_zero_or_pos (all / g) with h5 | h5
        · rw [h5] at d2; omega
        · exact h5
      generalize w / g = u at *
      generalize all / g = d at *
      have e1 : (all : Int).tmod d = 0 := by
        rw [← Int.ofNat_tmod, ← d2, Nat.mul_mod_right]; rfl
      have e2 : (all : Int).tdiv d = g := by
        rw [← Int.ofNat_tdiv, ← d2, Nat.mul_div_cancel_left _ hd]
      have lg : g ≤ all := by
        rw [← d2]; exact Nat.le_mul_of_pos_left _ hd
      have e3 : IntKind.i64.wrap ((u : Int) * IntKind.i64.wrap (g : Int)) = (w : Int) := by
        rw [w64 (n := (g : Int)) (by omega) (by omega), mN, d1, w64 (by omega) (by omega)]
      refine hat4.two hg fun bb o hr => ⟨_, _, hr, ifT_dec (fun h => by omega) fun _ => ⟨by omega, ?_⟩⟩
      rw [e1, e2, e3]
      refine ifT_intro (fun h => by simp at h) fun _ => ⟨by omega, ⟨by omega, by omega⟩, hx4.cell (nats_get hxi) fun b o' hr' => ⟨_, hr', ifT_intro (fun h => by simp at h) fun _ => ⟨by omega, ws.length - (i + 1), by omega, rfl, i + 1, by omega, ?_, rfl⟩⟩⟩
      rw [hst]
      generalize (ws.take i).sum = y at *
      rw [w64 (by omega) (by omega), w64 (by omega) (by omega)]
      rfl
    · have : i = ws.length := by omega
      subst this
      rw [List.take_length, hall]
      refine spec15 hI ⟨true, rfl, ifT_intro (fun _ => ifT_dec (fun _ => ?_) fun h => absurd rfl h) fun h => by cases h⟩
      refine spec58 hI hat2 (by omega) (by omega) ⟨_, rfl, ?_⟩
      show [boo _] = [boo true]
      simp [hys]

end
end Go.Proofs.YtihnjdhjkpmggaaVc
