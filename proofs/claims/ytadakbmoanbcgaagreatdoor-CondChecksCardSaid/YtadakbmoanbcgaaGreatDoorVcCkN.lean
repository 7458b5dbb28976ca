/- The one address that is drawn; reasons and what a condition is, as they are asked. Small facts that the texts of reasons have, and these need. The deferred closure of the parser does nothing where nothing has gone wrong. The parser, at the one text that each law of conditions reads; the end of each law. -/
import Derived.Test.YtadakbmoanbcgaaGreatDoorVcCkM
import Derived.WalkKit
import Derived.Defers
import Derived.Recover
set_option linter.unusedSimpArgs false
set_option linter.unusedVariables false
-- CkMean8
namespace Go.Proofs.YtadakbmoanbcgaaGreatDoorVc
open Go.Proofs.Tryz (prog)
def mailB (b : UInt8) : Bool := smallB b || digitB b || decide (b.toNat = 46) || decide (b.toNat = 45) || decide (b.toNat = 95)
def labB (b : UInt8) : Bool := smallB b || digitB b || decide (b.toNat = 45)
section
variable {Pm : Prim} {I : Calls} {Q : Post} {h : Heap} {TT : Heap → Prop}
theorem nat_dec (a b : Nat) : decide ((a : Int) = (b : Int)) = decide (a = b) := by rw [decide_eq_decide]; omega
theorem spec198 (hI : Closed' prog Pm I) {b : UInt8} (hQ : Q [boo (labB b)] h) : I 198 [u8 b] Q h := by
  refine hI.go _ _ (den198 I _ Q) ?_
  unfold labB at hQ
  refine spec103 hI ⟨_, rfl, ifT_intro (fun h1 => ?_) fun h1 => spec106 hI ⟨_, rfl, ifT_intro (fun h2 => ?_) fun h2 => ?_⟩⟩
  · rw [h1] at hQ; exact hQ
  · rw [h1, h2] at hQ; exact hQ
  · rw [h1, h2, Bool.false_or, Bool.false_or, ← nat_dec b.toNat 45] at hQ; exact hQ
theorem spec185 (hI : Closed' prog Pm I) {b : UInt8} (hQ : Q [boo (mailB b)] h) : I 185 [u8 b] Q h := by
  refine hI.go _ _ (den185 I _ Q) ?_
  unfold mailB at hQ
  refine spec103 hI ⟨_, rfl, ifT_intro (fun h1 => ?_) fun h1 => spec106 hI ⟨_, rfl, ifT_intro (fun h2 => ?_) fun h2 => ifT_dec (fun h3 => ?_) fun h3 => ifT_dec (fun h4 => ?_) fun h4 => ?_⟩⟩
  · rw [h1] at hQ; exact hQ
  · rw [h1, h2] at hQ; exact hQ
  · rw [h1, h2, show b.toNat = 46 by omega] at hQ; exact hQ
  · rw [h1, h2, show b.toNat = 45 by omega] at hQ; exact hQ
  · rw [h1, h2, show decide (b.toNat = 46) = false from decide_eq_false (by omega), show decide (b.toNat = 45) = false from decide_eq_false (by omega), Bool.false_or, Bool.false_or, Bool.false_or, ← nat_dec b.toNat 95] at hQ; exact hQ
def labelB (s : ByteArray) : Bool := decide (1 ≤ s.size) && decide (s.size ≤ 30) && !decide (byteAt s 0 = 45) && !decide (byteAt s ((s.size : Int) - 1) = 45) && (bl s).all labB
theorem spec187 (hI : Closed' prog Pm I) {s : ByteArray} (hs : labelB s = true) (hQ : Q [boo true] h) : I 187 [str s] Q h := by
  unfold labelB at hs
  simp only [Bool.and_eq_true] at hs
  obtain ⟨⟨⟨⟨h1, h2⟩, h3⟩, h4⟩, h5⟩ := hs
  have h1 := of_decide_eq_true h1
  have h2 := of_decide_eq_true h2
  refine hI.go _ _ (den187 I s Q) ?_
  refine spec73 hI ⟨_, rfl, ifT_intro (fun _ => ⟨⟨by omega, by omega⟩, ifT_intro (fun _ => ?_) fun e => by rw [h3] at e; cases e⟩) fun e => ?_⟩
  · have ew : IntKind.i64.wrap ((s.size : Int) - 1) = (s.size : Int) - 1 := by rw [w64] <;> omega
    rw [ew]
    refine ⟨⟨by omega, by omega⟩, ifT_intro (fun _ => ?_) fun e => by rw [h4] at e; cases e⟩
    exact spec104g hI (p := labB) (fun b Q hQ => spec198 hI hQ) (by omega) ⟨_, rfl, by rw [h5]; exact hQ⟩
  · exfalso
    simp at e
    omega
theorem ann_cut : Lib.cut annS.data.toList (⟨#[64]⟩ : ByteArray).data.toList = ([97, 110, 110], [98, 46, 100, 101], true) := by decide +kernel
theorem ann_split : Lib.splitB ⟨#[46]⟩ 0 (Lib.countB ⟨#[98, 46, 100, 101]⟩ ⟨#[46]⟩) ⟨#[98, 46, 100, 101]⟩ = [⟨#[98]⟩, ⟨#[100, 101]⟩] := by decide +kernel
/-- The one address that is drawn is right. -/
theorem spec175 (hI : Closed' prog Pm I) (hL : LibI I TT) (Q : Post) (h : Heap) (hT : TT h) (hQ : ∀ h', Ext h h' → Q [boo true] h') : I 175 [str annS] Q h := by
  refine hI.go _ _ (den175 I annS Q) ?_
  refine hL.cut hT (by decide) ?_
  rw [ann_cut]
  refine ⟨_, _, _, rfl, joinK_intro (fun (b : Bool) g => h = g ∧ b = false) ?_ fun jk hjk => ?_⟩
  case refine_2 =>
    refine ifT_intro (fun e => by cases e) fun _ => ifT_dec (fun e => absurd e (by decide)) fun _ => spec73 hI ⟨_, rfl, ifT_intro (fun e => absurd e (by decide)) fun _ => ⟨by decide, ifT_intro (fun e => absurd e (by decide +kernel)) fun _ => ⟨by decide, ifT_intro (fun e => absurd e (by decide +kernel)) fun _ => ?_⟩⟩⟩
    refine hL.has hT (by decide) ⟨_, rfl, hjk _ _ ⟨rfl, by decide +kernel⟩⟩
  rintro b _ ⟨rfl, rfl⟩
  refine ifT_intro (fun e => by cases e) fun _ => ?_
  refine spec104g hI (p := mailB) (fun b Q hQ => spec185 hI hQ) (by decide) ⟨_, rfl, ifT_intro (fun e => absurd e (by decide +kernel)) fun _ => ?_⟩
  refine hL.split hT (by decide) (by decide) fun sl h1 x1 hsl => ⟨_, rfl, ?_⟩
  rw [ann_split] at hsl
  have ls := strs_len hsl
  refine loopK_intro (fun (n : Int) h' m => h1 = h' ∧ ∃ i : Nat, i ≤ 2 ∧ n = i ∧ 2 - i = m) 2 ⟨rfl, 0, by omega, rfl, rfl⟩ ?_
  rintro n h' m ⟨rfl, i, hi, rfl, rfl⟩
  have next : i < 2 → ∃ m', m' < 2 - i ∧ h1 = h1 ∧ ∃ k : Nat, k ≤ 2 ∧ IntKind.i64.wrap ((i : Int) + 1) = k ∧ 2 - k = m' := fun hi => ⟨2 - (i + 1), by omega, rfl, i + 1, by omega, by rw [w64] <;> omega, rfl⟩
  refine ifT_dec (fun hlt => ⟨⟨by omega, hlt⟩, ?_⟩) fun hge => ?_
  · have hi2 : i = 0 ∨ i = 1 := by simp at ls; omega
    rcases hi2 with rfl | rfl
    · refine hsl.strRow (i := 0) (x := ⟨#[98]⟩) rfl fun bb oo hr => ⟨_, hr, spec187 hI (by decide +kernel) ⟨_, rfl, ifT_intro (fun e => by cases e) fun _ => next (by omega)⟩⟩
    · refine hsl.strRow (i := 1) (x := ⟨#[100, 101]⟩) rfl fun bb oo hr => ⟨_, hr, spec187 hI (by decide +kernel) ⟨_, rfl, ifT_intro (fun e => by cases e) fun _ => next (by omega)⟩⟩
  · have e : decide ((sl.len : Int) ≥ 2) = true := decide_eq_true (by rw [ls]; decide)
    rw [e]
    exact hQ h1 x1
theorem errV_size {v : Val} (h : errV v = 0) : v.text.size ≤ 1000000 := by
  unfold errV at h
  by_cases e : v.kind = 1
  · rw [if_pos e] at h
    by_cases e2 : v.num ≠ 0
    · rw [if_pos e2] at h; cases h
    · rw [if_neg e2] at h
      unfold errT at h
      by_cases e3 : 200 < v.text.size
      · rw [if_pos e3] at h; cases h
      · omega
  · rw [if_neg e] at h
    cases eb : boundsV v.kind with
    | none => rw [eb] at h; cases h
    | some p =>
      rw [eb] at h
      obtain ⟨a, b⟩ := p
      simp only at h
      by_cases e2 : v.text ≠ tE
      · rw [if_pos e2] at h; cases h
      · rw [Decidable.of_not_not e2]; decide
theorem RecOk.row {s : Sl} {fs : List Fld} (r : RecOk h s fs) : RowF h s fs := by
  obtain ⟨f1, f2, f3⟩ := r.ok
  exact ⟨r.at_, by omega, r.up, fun f hf => errV_size (f2 f hf).2⟩
theorem cents_item : (⟨#[99, 101, 110, 116, 115]⟩ : ByteArray).toList < (⟨#[105, 116, 101, 109]⟩ : ByteArray).toList := by decide +kernel
theorem EvOk.row {s : Sl} {evs : List (Evt × Sl)} (r : EvOk h s evs) : RowE h s evs := by
  refine ⟨r.at_, fun p hp => ?_, by have := r.len; omega, r.order, r.time⟩
  have g := r.good p hp
  obtain ⟨f1, f2, f3⟩ := fields_ok g
  refine ⟨r.flds p hp, by omega, ?_, fun f hf => errV_size (f2 f hf).2⟩
  obtain ⟨c, it, he, hc, hi⟩ := g.flds
  unfold upF
  rw [he]
  rcases hc with rfl | ⟨n, hn, rfl⟩ <;> rcases hi with rfl | ⟨s, hs, rfl⟩
  · simp
  · simp
  · simp
  · simp; decide
/-- A condition of which one can ask. -/
structure AskC (c : CT) : Prop where
  err : errCond c = 0
  nar : c.narrow
  size : c.size < 1000000
theorem AskC.tr {c : CT} (a : AskC c) : trE errN c = 0 := by
  have := a.err
  unfold errCond at this
  by_cases e : 300 < c.size ∨ 20 < c.deep
  · rw [if_pos e] at this; cases this
  · rw [if_neg e] at this; exact this
theorem AskC.fine {c : CT} (a : AskC c) : Fine c := fine_of a.tr a.nar
/-- What a condition is, as one asks. -/
theorem spec38 (hI : Closed' prog Pm I) (hL : LibI I TT) (hT : TT h) {c : CT} {r : List Cell} {sr se : Sl} {fs : List Fld} {evs : List (Evt × Sl)} {n : Int} (hc : CondAt h c r) (ha : AskC c) (hr : RecOk h sr fs) (hv : EvOk h se evs) (hn : 0 ≤ n ∧ n ≤ 4321439)
    (hQ : ∀ h', Ext h h' → Q [boo (evC (leafB fs (evs.map (·.1)) n) c), int 0] h') : I 38 [.agg r, .one (.slice 4 sr), .one (.slice 6 se), int n] Q h := by
  obtain ⟨sv, sw, sa, rfl, _⟩ := hc.parts
  refine hI.go _ _ (den38 I c.kind c.name c.field c.sign sv sw c.within c.num sa sr se n Q) ?_
  refine spec65 hI hL (spec175 hI hL) hT (r := condC c sv sw sa) hc ha.size ha.nar ha.err hr hv hn fun h1 x1 => ⟨_, rfl, ifT_intro (fun e => absurd rfl (nd e)) fun _ => ?_⟩
  refine spec66 hI hL c.size (Nat.le_refl _) (B := h) (r := condC c sv sw sa) (hL.ext x1 hT) x1 hc ha.fine ha.size hr.row hv.row fun b h2 x2 _ hnode => ⟨_, rfl, ?_⟩
  have hnode := hnode.ext (Up.real x1 x2)
  exact spec67 hI hv.row.good hn.1 hn.2 c.size (Nat.le_refl _) hnode ha.fine ha.size fun h3 x3 => ⟨_, rfl, hQ h3 ((x1.trans x2).trans x3)⟩
end
end Go.Proofs.YtadakbmoanbcgaaGreatDoorVc
-- CkBits
namespace Go.Proofs.YtadakbmoanbcgaaGreatDoorVc
theorem narrow_leafK {c : CT} (ha : c.args = []) (h1 : c.vals.length < 1000000) (h2 : c.whs.length < 1000000) : c.narrow := by
  rw [CT.narrow_eq, ha]
  exact ⟨h1, h2, by unfold narrows; trivial⟩
theorem leaf_ask {c : CT} (he : errN c = 0) (ha : c.args = []) (h1 : c.vals.length < 1000000) (h2 : c.whs.length < 1000000) : AskC c ∧ True := by
  have t1 : trE errN c = 0 := by rw [trE_eq, if_neg (by rw [he]; decide), ha]; simp [trsE]
  have s1 : c.size = 1 := by rw [c.size_eq, ha]; simp [sizes]
  have d1 : c.deep = 1 := by rw [c.deep_eq, ha]; simp [deeps]
  refine ⟨⟨?_, narrow_leafK ha h1 h2, by omega⟩, trivial⟩
  unfold errCond; rw [if_neg (by omega)]; exact t1
theorem CondsAt.one {h : Heap} {c : CT} {r : List Cell} (H : CondAt h c r) : CondsAt h [c] [r] := by unfold CondsAt; exact ⟨H, CondsAt.nil h⟩
theorem nw_del {h h' : Heap} {i : Nat} {l : Sl} {zs : List Int} {t : Nat} (S : Strm h i l zs t) (x : Ext (h.del i) (h'.del i)) : Ext (Nw h h') (h'.del i) := fun j y hy => by
  obtain ⟨a, b⟩ := Nw_get hy
  rw [Heap.del_ne _ (fun e => by rw [e, S.cell] at a; cases a)]; exact b
theorem set_del0 {h : Heap} {i : Nat} {o : Obj} (hn : h i = none) : (h.set i o).del i = h := by
  funext j
  by_cases e : j = i
  · subst e; rw [Heap.del_same, hn]
  · rw [Heap.del_ne _ e, Heap.set_ne _ _ e]
end Go.Proofs.YtadakbmoanbcgaaGreatDoorVc
-- CkQuiet
namespace Go.Proofs.YtadakbmoanbcgaaGreatDoorVc
open Go.Proofs Go.RowKit
open Go.Proofs.Tryz (prog)
theorem quiet61 : Quiet prog 61 3 := by
  refine ⟨⟨_, Tryz.func61, by kernel_rfl, by kernel_rfl⟩, fun args w hsz => ?_⟩
  obtain ⟨p, q, r, rfl⟩ : ∃ p q r, args = #[p, q, r] := by
    obtain ⟨l⟩ := args
    match l, hsz with
    | [p, q, r], _ => exact ⟨p, q, r, rfl⟩
  refine callsD_of_wpS Tryz.func61 rfl fun c₀ cs hu => ?_
  apply wpS_seq
  apply wpS_region
  simp [wpOpsS, go_sem, recoverD, hu, Tryz.ntmps112, Exit.thenS]
  have hnil : ∀ w : World, (binOp BinOp.neq 20 .nilIface .nilIface).run prog w = .ok (.bool false) w := fun _ => by kernel_rfl
  apply wpS_seq
  apply wpS_region
  simp [wpOpsS, go_sem, Exit.thenS, hnil]
  refine wpS_cond (t := false) (by simp [Act.eval]) ?_
  simp only [if_false, Bool.false_eq_true]
  refine wpS_of_wp (wp_skip ?_)
  cases c₀
  simp_all [bodyPostS, results, Tryz.results112, Exit.thenS]
end Go.Proofs.YtadakbmoanbcgaaGreatDoorVc
-- CkSeg
namespace Go.Proofs.YtadakbmoanbcgaaGreatDoorVc
open Go.Proofs.Tryz (prog)
def spaceB (b : UInt8) : Bool := decide (b.toNat = 32) || decide (b.toNat = 10)
def pWordB (b : UInt8) : Bool := smallB b || digitB b || decide (b.toNat = 45) || decide (b.toNat = 95)
/-- What a parser holds. -/
def pst (t : ByteArray) (n k a : Int) (s : ByteArray) : List Cell := [.str t, .int .i64 n, .int .i64 k, .int .i64 a, .str s]
section
variable {Pm : Prim} {I : Calls} {Q : Post} {h h0 : Heap} {TT : Heap → Prop} {L : List Ow}
theorem spec83 (hI : Closed' prog Pm I) {b : UInt8} (hQ : Q [boo (spaceB b)] h) : I 83 [u8 b] Q h := by
  refine hI.go _ _ (den83 I _ Q) ?_
  unfold spaceB at hQ
  refine ifT_dec (fun e => ?_) fun e => ?_
  · rw [show decide (b.toNat = 32) = true from decide_eq_true (by omega)] at hQ; exact hQ
  · rw [show decide (b.toNat = 32) = false from decide_eq_false (by omega), Bool.false_or, ← nat_dec b.toNat 10] at hQ; exact hQ
theorem spec84 (hI : Closed' prog Pm I) {b : UInt8} (hQ : Q [boo (smallB b)] h) : I 84 [u8 b] Q h := by
  refine hI.go _ _ (den84 I _ Q) ?_
  refine ifT_dec (fun e => ?_) fun e => ?_
  · have : decide ((b.toNat : Int) ≤ 122) = smallB b := by
      unfold smallB
      rw [show decide (97 ≤ b.toNat) = true from decide_eq_true (by omega), Bool.true_and, decide_eq_decide]; omega
    rw [this]; exact hQ
  · have : smallB b = false := by
      unfold smallB
      rw [show decide (97 ≤ b.toNat) = false from decide_eq_false (by omega), Bool.false_and]
    rw [this] at hQ; exact hQ
theorem spec86 (hI : Closed' prog Pm I) {b : UInt8} (hQ : Q [boo (digitB b)] h) : I 86 [u8 b] Q h := by
  refine hI.go _ _ (den86 I _ Q) ?_
  refine ifT_dec (fun e => ?_) fun e => ?_
  · have : decide ((b.toNat : Int) ≤ 57) = digitB b := by
      unfold digitB
      rw [show decide (48 ≤ b.toNat) = true from decide_eq_true (by omega), Bool.true_and, decide_eq_decide]; omega
    rw [this]; exact hQ
  · have : digitB b = false := by
      unfold digitB
      rw [show decide (48 ≤ b.toNat) = false from decide_eq_false (by omega), Bool.false_and]
    rw [this] at hQ; exact hQ
theorem spec85 (hI : Closed' prog Pm I) {b : UInt8} (hQ : Q [boo (pWordB b)] h) : I 85 [u8 b] Q h := by
  refine hI.go _ _ (den85 I _ Q) ?_
  unfold pWordB at hQ
  refine spec84 hI ⟨_, rfl, ifT_intro (fun h1 => ?_) fun h1 => spec86 hI ⟨_, rfl, ifT_intro (fun h2 => ?_) fun h2 => ifT_dec (fun h4 => ?_) fun h4 => ?_⟩⟩
  · rw [h1] at hQ; exact hQ
  · rw [h1, h2] at hQ; exact hQ
  · rw [h1, h2, show b.toNat = 45 by omega] at hQ; exact hQ
  · rw [h1, h2, show decide (b.toNat = 45) = false from decide_eq_false (by omega), Bool.false_or, Bool.false_or, Bool.false_or, ← nat_dec b.toNat 95] at hQ; exact hQ
/-- The end of a row of bytes of a kind. -/
theorem spec82 (hI : Closed' prog Pm I) {g : FuncId} {p : UInt8 → Bool} {b : Nat} {t : ByteArray} {r : List Cell} {n j : Nat} (hg : ∀ (b : UInt8) (Q : Post), Q [boo (p b)] h → I g [u8 b] Q h) (hc : h b = some (.cells false (.str t :: r))) (hn : n ≤ j) (hj : j ≤ t.size) (hs : t.size < 1000000)
    (hall : ∀ k, n ≤ k → k < j → ∃ c, (bl t)[k]? = some c ∧ p c = true) (hend : j = t.size ∨ ∃ c, (bl t)[j]? = some c ∧ p c = false) (hQ : Q [int (j : Int)] h) : I 82 [.one (.ptr (some (b, 0))), int (n : Int), .one (.func (some (g, [])))] Q h := by
  refine hI.go _ _ (den82 I (some (b, 0)) (n : Int) (some (g, [])) Q) ?_
  refine loopK_intro (fun (a : Int) h' m => h = h' ∧ ∃ k : Nat, n ≤ k ∧ k ≤ j ∧ a = k ∧ j - k = m) (j - n) ⟨rfl, n, by omega, hn, rfl, rfl⟩ ?_
  rintro a h' m ⟨rfl, k, hk, hkj, rfl, rfl⟩
  have rd : h.read b (0 + 0) 1 = some [.str t] := read_cell hc rfl
  refine derefK_intro rfl ⟨t, rd, ifT_dec (fun e => derefK_intro rfl ⟨t, rd, ⟨by omega, e⟩, ?_⟩) fun e => ?_⟩
  · by_cases ek : k = j
    · subst ek
      rcases hend with hend | ⟨c, h1, h2⟩
      · omega
      · rw [byteAt_bl h1]
        refine hg c _ ⟨_, rfl, ?_⟩
        rw [h2]
        exact ifT_intro (fun e => by cases e) fun _ => hQ
    · obtain ⟨c, h1, h2⟩ := hall k hk (by omega)
      rw [byteAt_bl h1]
      refine hg c _ ⟨_, rfl, ?_⟩
      rw [h2]
      exact ifT_intro (fun _ => ⟨j - (k + 1), by omega, rfl, k + 1, by omega, by omega, by rw [w64] <;> omega, rfl⟩) fun e => by cases e
  · have : k = j := by omega
    subst this; exact hQ
/-- A word is the next token. -/
theorem scan_word (hI : Closed' prog Pm I) {b : Nat} {t s : ByteArray} {n i j : Nat} {k a : Int} {c : UInt8} (o : Owns h0 h ((5, ⟨some (b, 0), 1⟩, pst t n k a s) :: L)) (hs : t.size < 1000000) (hni : n ≤ i) (hij : i < j) (hj : j ≤ t.size) (hsp : ∀ q, n ≤ q → q < i → ∃ c, (bl t)[q]? = some c ∧ spaceB c = true)
    (hc : (bl t)[i]? = some c) (h1 : spaceB c = false) (h2 : smallB c = true) (hw : ∀ q, i ≤ q → q < j → ∃ c, (bl t)[q]? = some c ∧ pWordB c = true) (he : j = t.size ∨ ∃ c, (bl t)[j]? = some c ∧ pWordB c = false)
    (hQ : ∀ h', Owns h0 h' ((5, ⟨some (b, 0), 1⟩, pst t j 1 i (t.extract i j)) :: L) → Q [] h') : I 62 [.one (.ptr (some (b, 0)))] Q h := by
  refine hI.go _ _ (den62 I (some (b, 0)) Q) ?_
  have hcell := (o.block (sz := 5) (i := b) (n := 1) List.mem_cons_self).1
  refine derefK_intro rfl ⟨(n : Int), read_cell hcell rfl, ?_⟩
  refine spec82 hI (p := spaceB) (fun b Q hQ => spec83 hI hQ) hcell hni (by omega) hs hsp (.inr ⟨c, hc, h1⟩) ⟨_, rfl, derefK_intro rfl ?_⟩
  refine storeK_one hcell (by simp [pst]) ?_
  have o2 := o.change (n' := 1) (sz' := 5) (cs' := pst t i k a s) rfl
  have hcell := (o2.block (sz := 5) (i := b) (n := 1) List.mem_cons_self).1
  generalize hh : h.set b (.cells false (pst t i k a s)) = g at o2 hcell
  have hh2 : h.set b (.cells false ((pst t n k a s).set (0 + 1) (.int .i64 (i : Int)))) = g := hh
  rw [hh2]
  have rd0 : g.read b (0 + 0) 1 = some [.str t] := read_cell hcell rfl
  refine derefK_intro rfl ⟨(i : Int), read_cell hcell rfl, derefK_intro rfl ⟨t, rd0, ifT_dec (fun e => by omega) fun _ => derefK_intro rfl ⟨t, rd0, ⟨by omega, by omega⟩, ?_⟩⟩⟩
  rw [byteAt_bl hc]
  refine spec84 hI ⟨_, rfl, joinK_intro (fun (p : Int × Int) g' => g = g' ∧ p = (1, (j : Int))) ?_ fun jk hjk => ?_⟩
  case refine_2 =>
    rw [h2]
    refine ifT_intro (fun _ => ?_) fun e => by cases e
    exact spec82 hI (p := pWordB) (fun b Q hQ => spec85 hI hQ) hcell (Nat.le_of_lt hij) hj hs hw he ⟨_, rfl, hjk _ _ ⟨rfl, rfl⟩⟩
  intro p g' hp
  obtain ⟨rfl, hp⟩ := hp
  subst hp
  dsimp only [uncur]
  refine derefK_intro rfl (storeK_one hcell (by simp [pst]) ?_)
  have o3 := o2.change (n' := 1) (sz' := 5) (cs' := pst t j k a s) rfl
  have hcell := (o3.block (sz := 5) (i := b) (n := 1) List.mem_cons_self).1
  generalize hh : g.set b (.cells false (pst t j k a s)) = g3 at o3 hcell
  have hh2 : g.set b (.cells false ((pst t i k a s).set (0 + 1) (.int .i64 (j : Int)))) = g3 := hh
  rw [hh2]
  refine derefK_intro rfl ⟨t, read_cell hcell rfl, ⟨by omega, by omega, by omega⟩, derefK_intro rfl ⟨_, hcell, by simp [pst], ?_⟩⟩
  have o4 := o3.change (n' := 1) (sz' := 5) (cs' := pst t j 1 i (t.extract i j)) rfl
  exact hQ _ o4
/-- The text is at its end. -/
theorem scan_end (hI : Closed' prog Pm I) {b : Nat} {t s : ByteArray} {k a : Int} (o : Owns h0 h ((5, ⟨some (b, 0), 1⟩, pst t t.size k a s) :: L)) (hs : t.size < 1000000)
    (hQ : ∀ h', Owns h0 h' ((5, ⟨some (b, 0), 1⟩, pst t t.size 0 t.size tE) :: L) → Q [] h') : I 62 [.one (.ptr (some (b, 0)))] Q h := by
  refine hI.go _ _ (den62 I (some (b, 0)) Q) ?_
  have hcell := (o.block (sz := 5) (i := b) (n := 1) List.mem_cons_self).1
  refine derefK_intro rfl ⟨(t.size : Int), read_cell hcell rfl, ?_⟩
  refine spec82 hI (p := spaceB) (fun b Q hQ => spec83 hI hQ) hcell (Nat.le_refl _) (Nat.le_refl _) hs (fun q h1 h2 => by omega) (.inl rfl) ⟨_, rfl, derefK_intro rfl ?_⟩
  refine storeK_one hcell (by simp [pst]) ?_
  have o2 := o.change (n' := 1) (sz' := 5) (cs' := pst t t.size k a s) rfl
  have hcell := (o2.block (sz := 5) (i := b) (n := 1) List.mem_cons_self).1
  generalize hh : h.set b (.cells false (pst t t.size k a s)) = g at o2 hcell
  have hh2 : h.set b (.cells false ((pst t t.size k a s).set (0 + 1) (.int .i64 (t.size : Int)))) = g := hh
  rw [hh2]
  refine derefK_intro rfl ⟨(t.size : Int), read_cell hcell rfl, derefK_intro rfl ⟨t, read_cell hcell rfl, ifT_dec (fun _ => derefK_intro rfl ⟨_, hcell, by simp [pst], ?_⟩) fun e => absurd rfl e⟩⟩
  have o4 := o2.change (n' := 1) (sz' := 5) (cs' := pst t t.size 0 t.size tE) rfl
  exact hQ _ o4
theorem spec139 (hI : Closed' prog Pm I) {b : Nat} {t s w : ByteArray} {n k a : Int} (o : Owns h0 h ((5, ⟨some (b, 0), 1⟩, pst t n k a s) :: L)) (hQ : Q [boo (decide (k = 1 ∨ k = 5) && decide (s = w))] h) : I 139 [.one (.ptr (some (b, 0))), str w] Q h := by
  refine hI.go _ _ (den139 I (some (b, 0)) w Q) ?_
  have hcell := (o.block (sz := 5) (i := b) (n := 1) List.mem_cons_self).1
  have rk : h.read b (0 + 2 + 0) 1 = some [.int .i64 k] := read_cell hcell rfl
  have rs : h.read b (0 + 2 + 2) 1 = some [.str s] := read_cell hcell rfl
  refine derefK_intro rfl ⟨k, rk, ifT_dec (fun e => derefK_intro rfl ⟨s, rs, ?_⟩) fun e => derefK_intro rfl ⟨k, rk, ifT_dec (fun e5 => derefK_intro rfl ⟨s, rs, ?_⟩) fun e5 => ?_⟩⟩
  · rw [decide_eq_true (.inl e), Bool.true_and] at hQ; exact hQ
  · rw [decide_eq_true (.inr e5), Bool.true_and] at hQ; exact hQ
  · rw [decide_eq_false (by rintro (a | a) <;> contradiction), Bool.false_and] at hQ; exact hQ
/-- A word that is not the next token. -/
theorem take_no (hI : Closed' prog Pm I) {b : Nat} {t s w : ByteArray} {n k a : Int} (o : Owns h0 h ((5, ⟨some (b, 0), 1⟩, pst t n k a s) :: L)) (hno : (decide (k = 1 ∨ k = 5) && decide (s = w)) = false) (hQ : Q [boo false] h) : I 116 [.one (.ptr (some (b, 0))), str w] Q h := by
  refine hI.go _ _ (den116 I (some (b, 0)) w Q) ?_
  refine spec139 hI o ⟨_, rfl, ?_⟩
  rw [hno]
  exact ifT_intro (fun _ => hQ) fun e => by cases e
theorem take_yes (hI : Closed' prog Pm I) {b : Nat} {t s w : ByteArray} {n k a : Int} (o : Owns h0 h ((5, ⟨some (b, 0), 1⟩, pst t n k a s) :: L)) (hy : (decide (k = 1 ∨ k = 5) && decide (s = w)) = true) (hQ : I 62 [.one (.ptr (some (b, 0)))] (fun cs h' => cs = [] ∧ Q [boo true] h') h) : I 116 [.one (.ptr (some (b, 0))), str w] Q h := by
  refine hI.go _ _ (den116 I (some (b, 0)) w Q) ?_
  refine spec139 hI o ⟨_, rfl, ?_⟩
  rw [hy]
  exact ifT_intro (fun e => by cases e) fun _ => hQ
def segT : ByteArray := ⟨#[104, 97, 115, 32, 97]⟩
def segA : ByteArray := ⟨#[97]⟩
def segH : ByteArray := ⟨#[104, 97, 115]⟩
def segC : CT := .mk 6 segA tE tE [] [] 0 0 []
theorem seg_bl : bl segT = [104, 97, 115, 32, 97] := by decide +kernel
/-- .. behind its first word. -/
theorem seg_primary (hI : Closed' prog Pm I) {b : Nat} (o : Owns h0 h ((5, ⟨some (b, 0), 1⟩, pst segT 3 1 0 segH) :: L)) (hQ : ∀ h', Owns h0 h' ((5, ⟨some (b, 0), 1⟩, pst segT 5 0 5 tE) :: L) → Q [.agg (condC segC ⟨none, 0⟩ ⟨none, 0⟩ ⟨none, 0⟩)] h') : I 140 [.one (.ptr (some (b, 0)))] Q h := by
  refine hI.go _ _ (den140 I (some (b, 0)) Q) ?_
  have no_ : ∀ {w : ByteArray} {F : Bool → T}, decide (segH = w) = false → F false h → I 116 [.one (.ptr (some (b, 0))), str w] (fun cs g => ∃ b : Bool, cs = [boo b] ∧ F b g) h := fun hw hF => take_no hI o (by rw [hw]; rfl) ⟨_, rfl, hF⟩
  refine no_ (by decide +kernel) (ifT_intro (fun e => by cases e) fun _ => ?_)
  refine no_ (by decide +kernel) (ifT_intro (fun e => by cases e) fun _ => ?_)
  refine no_ (by decide +kernel) (ifT_intro (fun e => by cases e) fun _ => ?_)
  refine take_yes hI o (by decide +kernel) ?_
  refine scan_word (n := 3) (i := 4) (j := 5) (c := 97) hI o (by decide) (by decide) (by decide) (by decide) (fun q h1 h2 => ?_) (by rw [seg_bl]; rfl) (by decide) (by decide) (fun q h1 h2 => ?_) (.inl rfl) fun g og => ⟨rfl, _, rfl, ?_⟩
  · obtain rfl : q = 3 := by omega
    exact ⟨32, by rw [seg_bl]; rfl, by decide⟩
  · obtain rfl : q = 4 := by omega
    exact ⟨97, by rw [seg_bl]; rfl, by decide⟩
  refine ifT_intro (fun _ => ?_) fun e => by cases e
  have ex : segT.extract 4 5 = segA := by decide +kernel
  rw [ex] at og
  refine hI.go _ _ (den152 I (some (b, 0)) _) ?_
  have hcell := (og.block (sz := 5) (i := b) (n := 1) List.mem_cons_self).1
  refine derefK_intro rfl ⟨segA, read_cell hcell rfl, joinK_intro (fun (z : Bool) g' => g = g' ∧ z = false) ?_ fun jk hjk => derefK_intro rfl ⟨1, read_cell hcell rfl, ifT_intro (fun e => absurd e (by decide)) fun _ => spec44 hI ⟨_, rfl, ?_⟩⟩⟩
  · rintro z _ ⟨rfl, rfl⟩
    refine ifT_intro (fun e => by cases e) fun _ => ?_
    refine scan_end hI (t := segT) og (by decide) fun g2 og2 => ⟨rfl, _, rfl, ?_⟩
    exact hQ g2 og2
  · rw [show nameB segA = true by decide +kernel]
    exact hjk _ _ ⟨rfl, rfl⟩
/-- One part, and no word behind it. -/
theorem seg_row (hI : Closed' prog Pm I) {b : Nat} {kd : Int} {w : ByteArray} {g : FuncId} (hg : ∀ (Q : Post) (h : Heap), Owns h0 h ((5, ⟨some (b, 0), 1⟩, pst segT 3 1 0 segH) :: L) → (∀ h', Owns h0 h' ((5, ⟨some (b, 0), 1⟩, pst segT 5 0 5 tE) :: L) → Q [.agg (condC segC ⟨none, 0⟩ ⟨none, 0⟩ ⟨none, 0⟩)] h') → I g [.one (.ptr (some (b, 0)))] Q h)
    (o : Owns h0 h ((5, ⟨some (b, 0), 1⟩, pst segT 3 1 0 segH) :: L)) (hQ : ∀ h', Owns h0 h' ((5, ⟨some (b, 0), 1⟩, pst segT 5 0 5 tE) :: L) → Q [.agg (condC segC ⟨none, 0⟩ ⟨none, 0⟩ ⟨none, 0⟩)] h') :
    I 90 [.one (.ptr (some (b, 0))), int kd, str w, .one (.func (some (g, [(b, 0)])))] Q h := by
  refine hI.go _ _ (den90 I (some (b, 0)) kd w (some (g, [(b, 0)])) Q) ?_
  refine hg _ h o fun h1 o1 => ⟨_, _, _, _, _, _, _, _, _, rfl, newK_intro fun i h2 hn he => ?_⟩
  have o2 := o1.mono (he ▸ Ext.new hn : Ext h1 h2)
  refine loopK_intro (fun (s : Sl) h' m => h2 = h' ∧ s = ⟨some (i, 0), 1⟩) 0 ⟨rfl, rfl⟩ ?_
  rintro _ h' m ⟨rfl, rfl⟩
  refine take_no hI o2 (by rfl) ⟨_, rfl, ifT_intro (fun e => by cases e) fun _ => ifT_dec (fun _ => ⟨⟨by decide, by show (0 : Int) < ((1 : Nat) : Int); decide⟩, derefK_intro rfl ?_⟩) fun e => absurd rfl e⟩
  have hc : h2 i = some (.cells false (condC segC ⟨none, 0⟩ ⟨none, 0⟩ ⟨none, 0⟩)) := by rw [he]; exact Heap.set_same ..
  refine ⟨_, _, _, _, _, _, _, _, _, ?_, hQ h2 o2⟩
  rw [read_block hc (show 0 + 0 + 9 ≤ 9 by decide)]; rfl
theorem seg_not (hI : Closed' prog Pm I) {b : Nat} (Q : Post) (h : Heap) (o : Owns h0 h ((5, ⟨some (b, 0), 1⟩, pst segT 3 1 0 segH) :: L)) (hQ : ∀ h', Owns h0 h' ((5, ⟨some (b, 0), 1⟩, pst segT 5 0 5 tE) :: L) → Q [.agg (condC segC ⟨none, 0⟩ ⟨none, 0⟩ ⟨none, 0⟩)] h') : I 117 [.one (.ptr (some (b, 0)))] Q h := by
  refine hI.go _ _ (den117 I (some (b, 0)) Q) ?_
  refine take_no hI o (by decide +kernel) ⟨_, rfl, ifT_intro (fun e => by cases e) fun _ => ?_⟩
  exact seg_primary hI o fun h' o' => ⟨_, _, _, _, _, _, _, _, _, rfl, hQ h' o'⟩
theorem seg_and (hI : Closed' prog Pm I) {b : Nat} (Q : Post) (h : Heap) (o : Owns h0 h ((5, ⟨some (b, 0), 1⟩, pst segT 3 1 0 segH) :: L)) (hQ : ∀ h', Owns h0 h' ((5, ⟨some (b, 0), 1⟩, pst segT 5 0 5 tE) :: L) → Q [.agg (condC segC ⟨none, 0⟩ ⟨none, 0⟩ ⟨none, 0⟩)] h') : I 91 [.one (.ptr (some (b, 0)))] Q h := by
  refine hI.go _ _ (den91 I (some (b, 0)) Q) ?_
  refine derefK_intro rfl (seg_row hI (fun Q h o hQ => ?_) o fun h' o' => ⟨_, _, _, _, _, _, _, _, _, rfl, hQ h' o'⟩)
  exact hI.goB (f := 117) (r := .one (.ptr (some (b, 0)))) (args := []) rfl (seg_not hI Q h o hQ)
theorem seg_or (hI : Closed' prog Pm I) {b : Nat} (Q : Post) (h : Heap) (o : Owns h0 h ((5, ⟨some (b, 0), 1⟩, pst segT 3 1 0 segH) :: L)) (hQ : ∀ h', Owns h0 h' ((5, ⟨some (b, 0), 1⟩, pst segT 5 0 5 tE) :: L) → Q [.agg (condC segC ⟨none, 0⟩ ⟨none, 0⟩ ⟨none, 0⟩)] h') : I 63 [.one (.ptr (some (b, 0)))] Q h := by
  refine hI.go _ _ (den63 I (some (b, 0)) Q) ?_
  refine derefK_intro rfl (seg_row hI (fun Q h o hQ => ?_) o fun h' o' => ⟨_, _, _, _, _, _, _, _, _, rfl, hQ h' o'⟩)
  exact hI.goB (f := 91) (r := .one (.ptr (some (b, 0)))) (args := []) rfl (seg_and hI Q h o hQ)
theorem segC_at (h : Heap) : CondAt h segC (condC segC ⟨none, 0⟩ ⟨none, 0⟩ ⟨none, 0⟩) := CondAt.make (rs := []) (AtS.nil _ _) (AtS.nil _ _) (AtS.nil _ _) (CondsAt.nil _)
theorem segC_ask : AskC segC := by
  have he : errN segC = 0 := by decide +kernel
  exact (leaf_ask he rfl (by decide) (by decide)).1
/-- The text is read. -/
theorem spec37 (hI : Closed' prog Pm I) (hL : LibI I TT) (hT : TT h) (hQ : ∀ h', Ext h h' → Q [.agg (condC segC ⟨none, 0⟩ ⟨none, 0⟩ ⟨none, 0⟩), int 0, int 0] h') : I 37 [str segT] Q h := by
  refine hI.goD _ _ (den37 I segT Q) ?_
  refine newK_intro fun i2 h2 hn2 he2 => newK_intro fun i4 h4 hn4 he4 => newK_intro fun i6 h6 hn6 he6 => ifT_dec (fun e => absurd e (by decide)) fun _ => ⟨quiet61, fun ds => newK_intro fun ip hp hnp hep => ?_⟩
  have o2 : Owns h h2 ((9, ⟨some (i2, 0), 1⟩, condC (.mk 0 tE tE tE [] [] 0 0 []) ⟨none, 0⟩ ⟨none, 0⟩ ⟨none, 0⟩) :: []) := by rw [he2]; exact (Owns.nil h).new hn2 rfl
  have o4 : Owns h h4 ((1, ⟨some (i4, 0), 1⟩, [.int .i64 0]) :: (9, ⟨some (i2, 0), 1⟩, condC (.mk 0 tE tE tE [] [] 0 0 []) ⟨none, 0⟩ ⟨none, 0⟩ ⟨none, 0⟩) :: []) := by rw [he4]; exact o2.new hn4 rfl
  have o6 : Owns h h6 ((1, ⟨some (i6, 0), 1⟩, [.int .i64 0]) :: (1, ⟨some (i4, 0), 1⟩, [.int .i64 0]) :: (9, ⟨some (i2, 0), 1⟩, condC (.mk 0 tE tE tE [] [] 0 0 []) ⟨none, 0⟩ ⟨none, 0⟩ ⟨none, 0⟩) :: []) := by rw [he6]; exact o4.new hn6 rfl
  have op : Owns h hp ((5, ⟨some (ip, 0), 1⟩, pst segT (0 : Nat) 0 0 tE) :: (1, ⟨some (i6, 0), 1⟩, [.int .i64 0]) :: (1, ⟨some (i4, 0), 1⟩, [.int .i64 0]) :: (9, ⟨some (i2, 0), 1⟩, condC (.mk 0 tE tE tE [] [] 0 0 []) ⟨none, 0⟩ ⟨none, 0⟩ ⟨none, 0⟩) :: []) := by rw [hep]; exact o6.new hnp rfl
  refine scan_word (n := 0) (i := 0) (j := 3) (c := 104) hI op (by decide) (by decide) (by decide) (by decide) (fun q h1 h2 => by omega) (by rw [seg_bl]; rfl) (by decide) (by decide) (fun q h1 h2 => ?_) (.inr ⟨32, by rw [seg_bl]; rfl, by decide⟩) fun g og => ⟨rfl, ?_⟩
  · have hq : q = 0 ∨ q = 1 ∨ q = 2 := by omega
    rcases hq with rfl | rfl | rfl
    · exact ⟨104, by rw [seg_bl]; rfl, by decide⟩
    · exact ⟨97, by rw [seg_bl]; rfl, by decide⟩
    · exact ⟨115, by rw [seg_bl]; rfl, by decide⟩
  have ex : segT.extract 0 3 = segH := by decide +kernel
  rw [ex] at og
  refine seg_or hI _ g og fun g2 og2 => ⟨_, _, _, _, _, _, _, _, _, rfl, ?_⟩
  -- i2 first
  have p2 : Owns h g2 ((9, ⟨some (i2, 0), 1⟩, condC (.mk 0 tE tE tE [] [] 0 0 []) ⟨none, 0⟩ ⟨none, 0⟩ ⟨none, 0⟩) :: (5, ⟨some (ip, 0), 1⟩, pst segT 5 0 5 tE) :: (1, ⟨some (i6, 0), 1⟩, [.int .i64 0]) :: (1, ⟨some (i4, 0), 1⟩, [.int .i64 0]) :: []) :=
    og2.perm ((List.perm_append_comm (l₁ := [_, _, _]) (l₂ := [_])))
  have c2 := (p2.block (sz := 9) (i := i2) (n := 1) List.mem_cons_self).1
  refine storeK_whole (ns := condC segC ⟨none, 0⟩ ⟨none, 0⟩ ⟨none, 0⟩) c2 rfl ?_
  have p3 := p2.change (n' := 1) (sz' := 9) (cs' := condC segC ⟨none, 0⟩ ⟨none, 0⟩ ⟨none, 0⟩) rfl
  generalize g2.set i2 (.cells false (condC segC ⟨none, 0⟩ ⟨none, 0⟩ ⟨none, 0⟩)) = g3 at p3
  have cp := (p3.block (sz := 5) (i := ip) (n := 1) (cs := pst segT 5 0 5 tE) (by simp)).1
  refine ⟨0, read_cell cp rfl, joinK_intro (fun (_ : PUnit) g' => g3 = g') ?_ fun jk hjk => ifT_intro (fun e => absurd e (by decide)) fun _ => hjk _ _ rfl⟩
  rintro _ _ rfl
  have rd9 : ∀ g : Heap, g i2 = some (.cells false (condC segC ⟨none, 0⟩ ⟨none, 0⟩ ⟨none, 0⟩)) → g.read i2 0 9 = some (condC segC ⟨none, 0⟩ ⟨none, 0⟩ ⟨none, 0⟩) := fun g hc => by rw [read_block hc (show 0 + 9 ≤ 9 by decide)]; rfl
  refine ⟨_, _, _, _, _, _, _, _, _, rd9 g3 (p3.block (sz := 9) (i := i2) (n := 1) List.mem_cons_self).1, ?_⟩
  refine spec8 hI hL (hL.ext p3.ext hT) (segC_at g3) segC_ask.size segC_ask.nar fun g4 x4 => ⟨_, rfl, ?_⟩
  rw [segC_ask.err]
  refine ifT_intro (fun e => absurd e (by decide)) fun _ => ?_
  have p4 := p3.mono x4
  have d2 := (p4.block (sz := 9) (i := i2) (n := 1) List.mem_cons_self).1
  refine ⟨_, _, _, _, _, _, _, _, _, rd9 g4 d2, storeK_whole (ns := condC segC ⟨none, 0⟩ ⟨none, 0⟩ ⟨none, 0⟩) d2 rfl ?_⟩
  have p5 := p4.change (n' := 1) (sz' := 9) (cs' := condC segC ⟨none, 0⟩ ⟨none, 0⟩ ⟨none, 0⟩) rfl
  generalize g4.set i2 (.cells false (condC segC ⟨none, 0⟩ ⟨none, 0⟩ ⟨none, 0⟩)) = g5 at p5
  have q5 := p5.perm (List.perm_append_comm (l₁ := [_, _, _]) (l₂ := [_]))
  refine storeK_one (q5.block (sz := 1) (i := i4) (n := 1) List.mem_cons_self).1 (by decide) ?_
  have q6 := q5.change (n' := 1) (sz' := 1) (cs' := [.int .i64 0]) rfl
  generalize hh6 : g5.set i4 (.cells false [.int .i64 0]) = g6 at q6
  have hh6' : g5.set i4 (.cells false ([Cell.int .i64 0].set 0 (.int .i64 0))) = g6 := hh6
  rw [hh6']
  have q7 := q6.perm (List.perm_append_comm (l₁ := [_, _, _]) (l₂ := [_]))
  refine storeK_one (q7.block (sz := 1) (i := i6) (n := 1) List.mem_cons_self).1 (by decide) ?_
  have q8 := q7.change (n' := 1) (sz' := 1) (cs' := [.int .i64 0]) rfl
  generalize hh8 : g6.set i6 (.cells false [.int .i64 0]) = g8 at q8
  have hh8' : g6.set i6 (.cells false ([Cell.int .i64 0].set 0 (.int .i64 0))) = g8 := hh8
  rw [hh8']
  refine ⟨_, _, _, _, _, _, _, _, _, rd9 g8 (q8.block (sz := 9) (i := i2) (n := 1) (cs := condC segC ⟨none, 0⟩ ⟨none, 0⟩ ⟨none, 0⟩) (by simp)).1, 0, read_cell (q8.block (sz := 1) (i := i4) (n := 1) (cs := [.int .i64 0]) (by simp)).1 rfl, 0, read_cell (q8.block (sz := 1) (i := i6) (n := 1) (cs := [.int .i64 0]) (by simp)).1 rfl, hQ g8 q8.ext⟩
/-- The end of each law of conditions: the package reads and looks at a condition. -/
theorem spec7 (hI : Closed' prog Pm I) (hL : LibI I TT) (hT : TT h) (hQ : ∀ h', Ext h h' → Q [boo true] h') : I 7 [] Q h := by
  refine hI.go _ _ (den7 I Q) ?_
  refine newK_intro fun i1 h1 hn1 he1 => ?_
  have x1 : Ext h h1 := he1 ▸ Ext.new hn1
  refine hI.go _ _ (den19 I segT ⟨some (i1, 0), 1⟩ ⟨none, 0⟩ 0 _) ?_
  refine spec37 hI hL (hL.ext x1 hT) fun h2 x2 => ⟨_, _, _, _, _, _, _, _, _, _, _, rfl, ifT_intro (fun e => absurd e (by decide)) fun _ => ?_⟩
  have x12 := x1.trans x2
  have hr : RecOk h2 ⟨some (i1, 0), 1⟩ [⟨segA, ⟨3, tE, 1⟩⟩] := by
    refine ⟨⟨rfl, .inr ?_⟩, ⟨by decide, fun f hf => ?_, by simp⟩, by simp⟩
    · show h2.read i1 0 (1 * 4) = _
      have hc : h2 i1 = some (.cells false (rows fldC [⟨segA, ⟨3, tE, 1⟩⟩])) := x2 _ _ (by rw [he1]; exact Heap.set_same ..)
      rw [read_block hc (show 0 + 1 * 4 ≤ 4 by decide)]; rfl
    · rw [List.mem_singleton.1 hf]
      exact ⟨by decide +kernel, by decide +kernel⟩
  have hv : EvOk h2 ⟨none, 0⟩ [] := ⟨⟨rfl, .inl rfl⟩, by simp, by simp, by simp, by simp, by simp, by simp⟩
  refine spec38 hI hL (hL.ext x12 hT) (segC_at h2) segC_ask hr hv (by decide) fun h3 x3 => ⟨_, _, rfl, _, _, rfl, ifT_intro (fun _ => ?_) fun e => absurd e (by decide)⟩
  have : evC (leafB [⟨segA, ⟨3, tE, 1⟩⟩] (([] : List (Evt × Sl)).map (·.1)) 0) segC = true := by decide +kernel
  rw [this]
  exact hQ h3 (x12.trans x3)
end
end Go.Proofs.YtadakbmoanbcgaaGreatDoorVc
