/- Contracts of what CodesCount reaches, part 3: batches and numbers. -/
import Derived.Test.YtihnjdhjkpmggaaVcCcSpec2
set_option linter.unusedSimpArgs false
set_option linter.unusedVariables false
namespace Go.Proofs.YtihnjdhjkpmggaaVc
open Go.Proofs.YtihnjdhjkpmggaaCodes
open Go.Proofs.Try (prog)

section
variable {I : Calls} {Q : Post} {h : Heap}

theorem val_eq {a b : Int} (e : a = b) (hQ : Q [int a] h) : Q [int b] h := e ▸ hQ

def lz (m : Nat) : Nat := if m = 29791 then 49 else if m = 923521 then 44 else 9
theorem lz_ok {m : Nat} (h : Mods m) : lz m < 64 ∧ 9223372036854775808 ≤ m * 2 ^ lz m ∧ m * 2 ^ lz m < 18446744073709551616 ∧ m < 25408476896404832 ∧ 0 < m := by
  rcases h with rfl | rfl | rfl <;> decide +kernel

theorem spec155 (hI : Closed' prog Pm I) {m : Nat} (hm : Mods m) (hQ : Q [int ((64 - lz m : Nat) : Int)] h) : I 155 [u64 m] Q h := by
  refine hI.go _ _ (den155 I m Q) ?_
  rcases hm with rfl | rfl | rfl
  · refine joinK_intro (fun (a : Int × Int) h' => h' = h ∧ a = (29791, 0)) ?_ (fun j hj => ifT_dec (fun h => absurd h (by decide)) fun _ => hj _ _ ⟨rfl, rfl⟩)
    rintro _ _ ⟨rfl, rfl⟩
    exact ifT_dec (fun h => absurd h (by decide)) fun _ => ifT_dec (fun _ => ⟨by decide +kernel, val_eq (by decide +kernel) hQ⟩) fun h => absurd (show (29791 : Int) ≥ 256 by decide) h
  · refine joinK_intro (fun (a : Int × Int) h' => h' = h ∧ a = (923521, 0)) ?_ (fun j hj => ifT_dec (fun h => absurd h (by decide)) fun _ => hj _ _ ⟨rfl, rfl⟩)
    rintro _ _ ⟨rfl, rfl⟩
    exact ifT_dec (fun _ => ifT_dec (fun h => absurd h (by decide +kernel)) fun _ => ⟨by decide +kernel, val_eq (by decide +kernel) hQ⟩) fun h => absurd (show (923521 : Int) ≥ 65536 by decide) h
  · refine joinK_intro (fun (a : Int × Int) h' => h' = h ∧ a = (shr .u64 25408476896404831 32, 32)) ?_ (fun j hj => ifT_dec (fun _ => hj _ _ ⟨rfl, rfl⟩) fun h => absurd (show ((25408476896404831 : Nat) : Int) ≥ 4294967296 by decide) h)
    rintro _ _ ⟨rfl, rfl⟩
    exact ifT_dec (fun _ => ifT_dec (fun h => absurd h (by decide +kernel)) fun _ => ⟨by decide +kernel, val_eq (by decide +kernel) hQ⟩) fun h => absurd (show shr .u64 25408476896404831 32 ≥ 65536 by decide +kernel) h

theorem spec137 (hI : Closed' prog Pm I) {m : Nat} (hm : Mods m) (hQ : Q [int (lz m)] h) : I 137 [u64 m] Q h := by
  refine hI.go _ _ (den137 I m Q) ?_
  refine spec155 hI hm ⟨_, rfl, val_eq ?_ hQ⟩
  have := (lz_ok hm).1
  rw [w64] <;> omega

theorem spec84 (hI : Closed' prog Pm I) {a b m : Nat} (hm : Mods m) (ha : a < 9223372036854775808) (hb : b < 9223372036854775808) (hQ : Q [int ((a * b % m : Nat) : Int)] h) : I 84 [int a, int b, int m] Q h := by
  obtain ⟨l1, l2, l3, l4, l5⟩ := lz_ok hm
  refine hI.go _ _ (den84 I a b m Q) ?_
  show I 115 [u64 (IntKind.u64.wrap a), u64 (IntKind.u64.wrap b)] _ h
  rw [wN a (by omega), wN b (by omega)]
  refine spec115 hI (by omega) (by omega) ⟨_, _, rfl, ?_⟩
  rw [wN m (by omega)]
  refine ⟨by omega, ?_⟩
  rw [← Int.ofNat_tmod]
  have hlt : a * b / 18446744073709551616 % m < m := Nat.mod_lt _ l5
  refine spec118 hI hlt (Nat.mod_lt _ (by decide)) l1 l2 l3 (fun Q' h' hq => spec137 hI hm hq) ⟨_, _, rfl, ?_⟩
  have e : (a * b / 18446744073709551616 % m * 18446744073709551616 + a * b % 18446744073709551616) % m = a * b % m := by
    rw [Nat.add_mod, Nat.mod_mul_mod, ← Nat.add_mod]
    congr 1
    generalize a * b = z
    omega
  rw [e]
  have := Nat.mod_lt (a * b) l5
  exact val_eq (by rw [w64] <;> omega) hQ

theorem spec87 (hI : Closed' prog Pm I) {m : Nat} (hm : Mods m) (hQ : Q [int (invOf m)] h) : I 87 [int m] Q h := by
  obtain ⟨l1, l2, l3, l4, l5⟩ := lz_ok hm
  have hr := runs_ok hm
  obtain ⟨_, _, i3, i4, i5⟩ := inv_ok hm
  unfold runs at hr
  simp only [Bool.and_eq_true, List.all_eq_true, decide_eq_true_eq, List.mem_range] at hr
  obtain ⟨⟨r1, r2⟩, r3⟩ := hr
  refine hI.go _ _ (den87 I m Q) ?_
  refine ⟨by omega, loopK_intro (fun (a : Int × Int × Int × Int) h' k => h' = h ∧ ∃ j : Nat, j ≤ rounds m ∧ a = ((iter j (YtihnjdhjkpmggaaCodes.start m)).a, (iter j (YtihnjdhjkpmggaaCodes.start m)).b, (iter j (YtihnjdhjkpmggaaCodes.start m)).x, (iter j (YtihnjdhjkpmggaaCodes.start m)).y) ∧ rounds m - j = k) (rounds m)
    ⟨rfl, 0, by omega, rfl, rfl⟩ ?_⟩
  rintro a h' k ⟨rfl, j, hj, rfl, rfl⟩
  dsimp only [uncur]
  refine ifT_intro (fun h1 => ?_) (fun h1 => ?_)
  · have h1 : ¬ (iter j (YtihnjdhjkpmggaaCodes.start m)).a = 0 := by simpa using h1
    have hlt : j < rounds m := by
      rcases Nat.lt_or_ge j (rounds m) with h2 | h2
      · exact h2
      · have : j = rounds m := by omega
        subst this
        exact absurd r2 h1
    obtain ⟨⟨⟨⟨⟨⟨b1, b2⟩, b3⟩, b4⟩, b5⟩, b6⟩, b7⟩ := r3 j (by omega)
    refine ⟨h1, rounds m - (j + 1), by omega, rfl, j + 1, by omega, ?_, rfl⟩
    simp only [iter, YtihnjdhjkpmggaaCodes.step]
    generalize (iter j (YtihnjdhjkpmggaaCodes.start m)).b.tdiv (iter j (YtihnjdhjkpmggaaCodes.start m)).a = q at *
    have w1 : IntKind.i64.wrap q = q := w64 (by omega) (by omega)
    rw [w1]
    generalize q * (iter j (YtihnjdhjkpmggaaCodes.start m)).a = z1 at *
    generalize q * (iter j (YtihnjdhjkpmggaaCodes.start m)).x = z2 at *
    rw [w64 (n := z1) (by omega) (by omega), w64 (n := z2) (by omega) (by omega), w64 (by omega) (by omega), w64 (by omega) (by omega)]
  · have h1 : (iter j (YtihnjdhjkpmggaaCodes.start m)).a = 0 := by simpa using h1
    have : j = rounds m := by
      rcases Nat.lt_or_ge j (rounds m) with h2 | h2
      · exact absurd h1 (r1 j h2)
      · omega
    subst this
    refine ⟨by omega, by omega, val_eq ?_ hQ⟩
    rw [w64 (by omega) (by omega)]
    exact i3.symm

/-! ### batches -/
abbrev valOf (k all num : Nat) : Nat := (num * 7919 % all + k) % all
/-- The code of a number. -/
def IsCode (ds : List Nat) (n k num : Nat) (b : ByteArray) : Prop := ∃ x, x < 31 ∧ wsum (ds ++ digs n (valOf k (31 ^ n) num) ++ [x]) % 31 = 0 ∧ b = code (ds ++ digs n (valOf k (31 ^ n) num) ++ [x])

theorem set_mid (r : Nat) (z c : Cell) (tl : List Cell) : (List.replicate (r + 1) z ++ tl).set r c = List.replicate r z ++ c :: tl := by
  rw [List.replicate_succ', List.append_assoc, List.set_append_right _ _ (by simp)]
  simp

theorem sign_at {d : Nat} (hd : d < 31) : byteAt signS (d : Int) = ((sgn d).toNat : Int) := by
  rw [signS_eq]
  exact byteAt_code (by simp [hd])

def bytesOf (ds : List Nat) : List Cell := ds.map fun d => .int .u8 ((sgn d).toNat : Int)

theorem spec41 (hI : Closed' prog Pm I) {ds : List Nat} {n k f c : Nat} (hds : ∀ d ∈ ds, d < 31) (h1 : ds.length ≤ 12) (h2 : 3 ≤ n) (h3 : n ≤ 11) (h4 : k < 31 ^ n) (h5 : f + c ≤ 31 ^ n) (h6 : c ≤ 1000) (h7 : f < 31 ^ n) (h8 : f < 100000) (hm : Mods (31 ^ n))
    (hQ : ∀ s h' cs, Ext h h' → At h' 1 s (strs cs) → cs.length = c → (∀ i b, cs[i]? = some b → IsCode ds n k (f + i) b) → Q [.one (.slice 1 s), int 0] h') : I 41 [str (code ds), int n, int k, int f, int c] Q h := by
  obtain ⟨l1, l2, l3, l4, l5⟩ := lz_ok hm
  refine hI.go _ _ (den41 I (code ds) n k f c Q) ?_
  refine spec82 hI hds h1 h2 h3 (by omega) (by omega) ⟨_, rfl, ifT_intro (fun h => by simp at h) fun _ => ?_⟩
  refine spec83 hI h3 ⟨_, rfl, ?_⟩
  generalize hall : 31 ^ n = all at *
  have efc : IntKind.i64.wrap ((f : Int) + (c : Int)) = ((f + c : Nat) : Int) := by rw [w64] <;> omega
  rw [efc]
  refine joinK_intro (fun (b : Bool) h' => h' = h ∧ b = false) ?_ ?_
  · rintro _ h' ⟨rfl, rfl⟩
    refine ifT_intro (fun h => by cases h) fun _ => ?_
    refine loopK_intro (fun (a : Sl × Int) h'' m => ∃ j : Nat, j ≤ c ∧ a.2 = ((f + j : Nat) : Int) ∧ c - j = m ∧ ∃ cs, Own h' h'' 1 a.1 (strs cs) ∧ cs.length = j ∧ ∀ i b, cs[i]? = some b → IsCode ds n k (f + i) b) c
      ⟨0, by omega, rfl, rfl, [], Own.nil _ _, rfl, fun i b h => by simp at h⟩ ?_
    rintro ⟨s, y⟩ h2' m ⟨j, hj, rfl, rfl, cs, ho, hcl, hcs⟩
    dsimp only [uncur]
    refine ifT_dec (fun hlt => ?_) (fun hge => ?_)
    · refine spec84 hI hm (a := f + j) (b := 7919) (by omega) (by decide) ⟨_, rfl, by omega, rfl, by omega, by omega, by show (n : Int) * ((1 : Nat) : Int) ≤ _; omega, ?_⟩
      refine newK_intro fun i21 h3' hn3 he3 => ?_
      subst he3
      have hmod := Nat.mod_lt ((f + j) * 7919) l5
      have ev : (IntKind.i64.wrap ((((f + j) * 7919 % all : Nat) : Int) + (k : Int))).tmod (all : Int) = ((valOf k all (f + j) : Nat) : Int) := by
        rw [w64 (by omega) (by omega), aN, ← Int.ofNat_tmod]
      rw [ev]
      have hv : valOf k all (f + j) < all := Nat.mod_lt _ l5
      obtain ⟨v, hvd⟩ : ∃ v, valOf k all (f + j) = v := ⟨_, rfl⟩
      rw [hvd] at hv
      rw [hvd]
      have e1 : IntKind.i64.wrap ((n : Int) - 1) = (n : Int) - 1 := w64 (by omega) (by omega)
      rw [e1, Int.toNat_natCast]
      have hsl : slCells (.one (.int .u8)) n = List.replicate n (.int .u8 0) := by
        unfold slCells
        show (List.replicate n [Kd.zero (.int .u8)]).flatten = _
        rw [List.flatten_replicate_singleton]
        rfl
      rw [hsl]
      refine loopK_intro (fun (a : Int × Int) h4' m => ∃ r : Nat, r ≤ n ∧ a = (((v / 31 ^ (n - r) : Nat) : Int), (r : Int) - 1) ∧ r = m ∧ h4' = h2'.set i21 (.cells false (List.replicate r (.int .u8 0) ++ bytesOf (digs (n - r) v)))) n
        ⟨n, by omega, by simp, rfl, by simp [digs, bytesOf]⟩ ?_
      rintro a h4' m ⟨r, hr, rfl, rfl, rfl⟩
      dsimp only [uncur]
      refine ifT_dec (fun hr0 => ?_) (fun hr0 => ?_)
      · obtain ⟨r, rfl⟩ : ∃ r', r = r' + 1 := ⟨r - 1, by omega⟩
        have et : ((r + 1 : Nat) : Int) - 1 = (r : Int) := by omega
        rw [et]
        have hd : v / 31 ^ (n - (r + 1)) % 31 < 31 := Nat.mod_lt _ (by decide)
        have em : ((v / 31 ^ (n - (r + 1)) : Nat) : Int).tmod 31 = ((v / 31 ^ (n - (r + 1)) % 31 : Nat) : Int) := by
          rw [show (31 : Int) = ((31 : Nat) : Int) from rfl, ← Int.ofNat_tmod]
        have eq' : ((v / 31 ^ (n - (r + 1)) : Nat) : Int).tdiv 31 = ((v / 31 ^ (n - r) : Nat) : Int) := by
          rw [show (31 : Int) = ((31 : Nat) : Int) from rfl, ← Int.ofNat_tdiv, Nat.div_div_eq_div_mul, ← Nat.pow_succ, show (n - (r + 1)).succ = n - r by omega]
        have hle : v / 31 ^ (n - r) ≤ v := Nat.div_le_self _ _
        have ew : IntKind.i64.wrap ((v / 31 ^ (n - r) : Nat) : Int) = ((v / 31 ^ (n - r) : Nat) : Int) := by
          generalize v / 31 ^ (n - r) = w at hle
          exact w64 (by omega) (by omega)
        rw [em, eq', sign_at hd, ew, w64 (n := (r : Int) - 1) (by omega) (by omega)]
        refine ⟨⟨by omega, by show ((v / 31 ^ (n - (r + 1)) % 31 : Nat) : Int) < ((31 : Nat) : Int); omega⟩, ⟨by omega, by omega⟩, ?_⟩
        have eo : 0 + ((r : Int)).toNat * 1 = r := by simp
        rw [eo]
        refine storeK_one (set_eq _ _ _) (by simp [bytesOf, digs_length]; omega) ⟨r, by omega, r, by omega, rfl, rfl, ?_⟩
        rw [set_set, set_mid, show n - r = (n - (r + 1)) + 1 by omega, digs_cons]
        rfl
      · have : r = 0 := by omega
        subst this
        simp only [List.replicate_zero, List.nil_append, Nat.sub_zero]
        have hlen : (bytesOf (digs n v)).length = n := by simp [bytesOf, digs_length]
        have hdn : ∀ d ∈ digs n v, d < 31 := digs_lt n v
        refine ⟨code (digs n v), ?_, ?_, ?_⟩
        · rw [code_bytes]
          show (h2'.set i21 _).read i21 0 (n * 1) = _
          rw [read_block (set_eq _ _ _) (by rw [hlen]; omega)]
          simp only [List.drop_zero]
          rw [List.take_of_length_le (by rw [hlen]; omega)]
          rfl
        · rw [code_size, code_size, digs_length]; omega
        · rw [code_append]
          have hds2 : ∀ d ∈ ds ++ digs n v, d < 31 := fun d hd => by
            rcases List.mem_append.1 hd with hd | hd
            · exact hds d hd
            · exact hdn d hd
          refine spec74 hI hds2 (by simp [digs_length]; omega) fun x hx hs0 => ⟨_, rfl, ?_⟩
          refine appendTo_own (m := 0) (ho.mono (Ext.new hn3)) (by rfl) ?_ fun s' h5' ho' hl' => ?_
          · have : s.len * 1 = (strs cs).length := ho.len
            simp [strs] at this
            omega
          · refine ⟨c - (j + 1), by omega, j + 1, by omega, ?_, rfl, cs ++ [code (ds ++ digs n v ++ [x])], by simpa [strs] using ho', by simp [hcl], fun i b hb => ?_⟩
            · show IntKind.i64.wrap (((f + j : Nat) : Int) + 1) = _
              rw [w64] <;> omega
            · rcases Nat.lt_or_ge i cs.length with hi | hi
              · rw [List.getElem?_append_left hi] at hb
                exact hcs i b hb
              · rw [List.getElem?_append_right hi] at hb
                have hi0 : i = j := by
                  rcases Nat.lt_or_ge (i - cs.length) 1 with h' | h'
                  · omega
                  · rw [List.getElem?_eq_none (by simpa using h')] at hb; cases hb
                subst hi0
                rw [show i - cs.length = 0 by omega] at hb
                cases hb
                refine ⟨x, hx, ?_, ?_⟩
                · rw [hall, hvd]; exact hs0
                · rw [hall, hvd]
    · have : j = c := by omega
      subst this
      exact hQ s h2' cs ho.ext ho.at_ hcl hcs
  · intro j hj
    have ew : IntKind.i64.wrap ((all : Int) - 1) = (all : Int) - 1 := w64 (by omega) (by omega)
    refine spec72 hI ⟨_, rfl, ifT_intro (fun hb => ?_) fun _ => ?_⟩
    · exfalso
      rw [ew] at hb
      simp at hb
      omega
    · refine spec72 hI ⟨_, rfl, ifT_intro (fun hb => ?_) fun _ => ?_⟩
      · exfalso
        simp at hb
        omega
      · refine hj _ _ ⟨rfl, ?_⟩
        simp
        omega

end
end Go.Proofs.YtihnjdhjkpmggaaVc
