/- Contracts of the checks of conditions: values, comparisons, one condition. Contracts of the checks of conditions: one node, a whole condition. Contracts of the checks of conditions: a walk, how large a condition is, CheckCond. -/
import Derived.Test.YtadakbmoanbcgaaGreatDoorVcCkOld
import Derived.Test.YtadakbmoanbcgaaGreatDoorVcCoPure
import Derived.Lib.IndexAny
import Derived.Lib.Split
import Derived.Test.YtadakbmoanbcgaaGreatDoorVcCkG
set_option linter.unusedSimpArgs false
set_option linter.unusedVariables false
-- CkChk
namespace Go.Proofs.YtadakbmoanbcgaaGreatDoorVc
open Go.Proofs.Tryz (prog)
def conS (s t : ByteArray) : Bool := Lib.contains s.data.toList t.data.toList
/-- What stands of the library's functions that have contracts of their own, wherever the tables lie. -/
structure LibI (I : Calls) (T : Heap → Prop) : Prop where
  ext : ∀ {h h' : Heap}, Ext h h' → T h → T h'
  valid : ∀ {s : ByteArray} {Q : Post} {h : Heap}, T h → s.size ≤ 200 → Q [boo (validS s)] h → I 107 [str s] Q h
  cut : ∀ {s t : ByteArray} {Q : Post} {h : Heap}, T h → s.size ≤ 1000000 → Q [str ⟨(Lib.cut s.data.toList t.data.toList).1.toArray⟩, str ⟨(Lib.cut s.data.toList t.data.toList).2.1.toArray⟩, boo (Lib.cut s.data.toList t.data.toList).2.2] h → I 184 [str s, str t] Q h
  split : ∀ {s t : ByteArray} {Q : Post} {h : Heap}, T h → s.size ≤ 1000000 → 1 ≤ t.size → (∀ sl h', Ext h h' → At h' 1 sl (strs (Lib.splitB t 0 (Lib.countB s t) s)) → Q [.one (.slice 1 sl)] h') → I 186 [str s, str t] Q h
  has : ∀ {s t : ByteArray} {Q : Post} {h : Heap}, T h → s.size ≤ 1000000 → Q [boo (conS s t)] h → I 51 [str s, str t] Q h
section
variable {Pm : Prim} {I : Calls} {TT : Heap → Prop} {Q : Post} {h : Heap}
theorem spec48 (hI : Closed' prog Pm I) {n a b : Int} (hQ : Q [boo (decide (a ≤ n ∧ n ≤ b))] h) : I 48 [int n, int a, int b] Q h := by
  refine hI.go _ _ (den48 I n a b Q) ?_
  refine ifT_dec (fun h1 => ?_) fun h1 => ?_
  · have e : decide (a ≤ n ∧ n ≤ b) = decide (n ≤ b) := by simp [h1]
    rw [e] at hQ; exact hQ
  · have e : decide (a ≤ n ∧ n ≤ b) = false := by simp [h1]
    rw [e] at hQ; exact hQ
theorem spec71 (hI : Closed' prog Pm I) {s : Sl} {xs : List ByteArray} {x : ByteArray} (hs : At h 1 s (strs xs)) (hl : xs.length < 1000000) (hQ : Q [int (idxS x xs 0)] h) : I 71 [sls 1 s, str x] Q h := by
  refine hI.go _ _ (den71 I s x Q) ?_
  have ls := strs_len hs
  refine loopK_intro (fun (n : Int) h' m => h' = h ∧ ∃ i : Nat, i ≤ xs.length ∧ n = i ∧ xs.length - i = m ∧ ∀ y ∈ xs.take i, x ≠ y) xs.length ⟨rfl, 0, by omega, rfl, rfl, by simp⟩ ?_
  rintro n h' m ⟨rfl, i, hi, rfl, rfl, he⟩
  refine ifT_dec (fun hlt => ⟨⟨by omega, hlt⟩, ?_⟩) fun hge => ?_
  · have hx := List.getElem?_eq_getElem (show i < xs.length by omega)
    generalize xs[i] = y at hx
    refine hs.strRow hx fun b o hr => ⟨y, hr, ifT_dec (fun h2 => ?_) fun h2 => ?_⟩
    · subst h2
      have := idxS_at (k := 0) he hx
      rw [Nat.zero_add] at this
      rw [this] at hQ; exact hQ
    · refine ⟨xs.length - (i + 1), by omega, rfl, i + 1, by omega, by rw [w64] <;> omega, rfl, fun z hz => ?_⟩
      rw [take_snoc hx] at hz
      rcases List.mem_append.1 hz with hz | hz
      · exact he z hz
      · rw [List.mem_singleton.1 hz]; exact h2
  · have : i = xs.length := by omega
    subst this
    rw [List.take_length] at he
    rw [idxS_none he] at hQ; exact hQ
theorem spec45 (hI : Closed' prog Pm I) {s : ByteArray} (hQ : ∀ h', Ext h h' → Q [int (signNo s)] h') : I 45 [str s] Q h := by
  refine hI.go _ _ (den45 I s Q) ?_
  refine newK_intro fun j h1 hn he => ?_
  refine spec71 hI (xs := sgs) ⟨rfl, .inr ?_⟩ (by decide) ⟨_, rfl, hQ h1 (he ▸ Ext.new hn)⟩
  show h1.read j 0 (6 * 1) = _
  rw [he, read_block (Heap.set_same _ _ _) (by decide)]; rfl
theorem two_if {p : Prop} [Decidable p] {x y : T} {g : T} (h1 : p → x h) (h2 : ¬ p → g h) : ifT (decide p) (ifT (decide p) x y) g h :=
  ifT_dec (fun a => ifT_dec (fun _ => h1 a) fun b => absurd a b) h2
theorem spec70 (hI : Closed' prog Pm I) {s : ByteArray} (hQ : Q [boo (wordB s)] h) : I 70 [str s] Q h := by
  refine hI.go _ _ (den70 I s Q) ?_
  have yes : (∃ w ∈ words, s = w) → Q [boo true] h := fun ⟨w, hw, e⟩ => by
    have : wordB s = true := List.any_eq_true.2 ⟨w, hw, by simp [e]⟩
    rw [this] at hQ; exact hQ
  unfold vc70
  repeat' (first
    | refine two_if (fun e => yes ⟨_, by simp [words], e⟩) fun _ => ?_
    | refine ifT_dec (fun e => yes ⟨_, by simp [words], e⟩) fun _ => ?_)
  have : wordB s = false := by
    unfold wordB words
    simp_all
  rw [this] at hQ; exact hQ
theorem spec44 (hI : Closed' prog Pm I) {s : ByteArray} (hQ : Q [boo (nameB s)] h) : I 44 [str s] Q h := by
  refine hI.go _ _ (den44 I s Q) ?_
  unfold nameB at hQ
  refine spec69 hI ⟨_, rfl, ifT_intro (fun h1 => spec70 hI ⟨_, rfl, ?_⟩) fun h1 => ?_⟩
  · rw [h1, Bool.true_and] at hQ; exact hQ
  · rw [h1, Bool.false_and] at hQ; exact hQ
theorem spec108 (hI : Closed' prog Pm I) {b : UInt8} (hQ : Q [boo (plainB b)] h) : I 108 [u8 b] Q h := by
  refine hI.go _ _ (den108 I _ Q) ?_
  unfold plainB at hQ
  refine ifT_dec (fun h1 => ?_) fun h1 => ?_
  · have e1 : decide (32 ≤ b.toNat) = true := decide_eq_true (by omega)
    have e2 : decide ((b.toNat : Int) = 127) = decide (b.toNat = 127) := by rw [decide_eq_decide]; omega
    rw [e1, Bool.true_and, ← e2] at hQ; exact hQ
  · have e1 : decide (32 ≤ b.toNat) = false := decide_eq_false (by omega)
    rw [e1, Bool.false_and] at hQ; exact hQ
theorem spec104g (hI : Closed' prog Pm I) {g : FuncId} {p : UInt8 → Bool} (hg : ∀ (b : UInt8) (Q : Post), Q [boo (p b)] h → I g [u8 b] Q h) {s : ByteArray} (hl : s.size < 1000) (hQ : Q [boo ((bl s).all p)] h) : I 104 [str s, .one (.func (some (g, [])))] Q h := by
  refine hI.go _ _ (den104 I s _ Q) ?_
  refine loopK_intro (fun (a : Int) h' m => h' = h ∧ ∃ i : Nat, i ≤ s.size ∧ a = i ∧ m = s.size - i ∧ ((bl s).take i).all p = true) s.size ⟨rfl, 0, by omega, rfl, rfl, rfl⟩ ?_
  rintro a h' m ⟨rfl, i, hi, rfl, rfl, hall⟩
  refine ifT_dec (fun hlt => ⟨⟨by omega, hlt⟩, ?_⟩) (fun hge => ?_)
  · have hlt' : i < (bl s).length := by rw [← bl_size]; omega
    have hb := List.getElem?_eq_getElem hlt'
    generalize (bl s)[i] = b at hb
    rw [byteAt_bl hb]
    refine hg b _ ⟨_, rfl, ifT_intro (fun h1 => ?_) fun h1 => ?_⟩
    · have e : (bl s).all p = false := by
        rw [List.all_eq_false]
        exact ⟨b, List.mem_of_getElem? hb, by simpa using h1⟩
      rw [e] at hQ; exact hQ
    · refine ⟨s.size - (i + 1), by omega, rfl, i + 1, by omega, by rw [w64] <;> omega, rfl, ?_⟩
      rw [all_take_step hb, hall]
      simpa using h1
  · have : i = s.size := by omega
    subst this
    rw [bl_size, List.take_length] at hall
    rw [hall] at hQ
    exact hQ
theorem spec72 (hI : Closed' prog Pm I) (hL : LibI I TT) (hT : TT h) {s : ByteArray} (hQ : Q [int (errT s)] h) : I 72 [str s] Q h := by
  refine hI.go _ _ (den72 I s Q) ?_
  unfold errT at hQ
  refine ifT_dec (fun h1 => ?_) fun h1 => ?_
  · rw [if_pos (by omega)] at hQ; exact hQ
  rw [if_neg (by omega)] at hQ
  refine hL.valid hT (by omega) ⟨_, rfl, ifT_intro (fun h2 => ?_) fun h2 => ?_⟩
  · rw [if_pos (by simpa using h2)] at hQ; exact hQ
  rw [if_neg (by simpa using h2)] at hQ
  refine spec104g hI (p := plainB) (fun b Q hQ => spec108 hI hQ) (by omega) ⟨_, rfl, ifT_intro (fun h3 => ?_) fun h3 => ?_⟩
  · rw [if_pos (by simpa using h3)] at hQ; exact hQ
  · rw [if_neg (by simpa using h3)] at hQ; exact hQ
theorem spec46 (hI : Closed' prog Pm I) (hL : LibI I TT) (hT : TT h) {v : Val} (hQ : Q [int (errV v)] h) : I 46 [.agg (valC v)] Q h := by
  refine hI.go _ _ (den46 I v.kind v.text v.num Q) ?_
  unfold errV at hQ
  refine ifT_dec (fun h1 => ifT_intro (fun h2 => ?_) fun h2 => ?_) fun h1 => ?_
  · rw [if_pos h1, if_pos (nd h2)] at hQ; exact hQ
  · have h3 := nd' h2
    rw [if_pos h1, if_neg h3] at hQ
    exact spec72 hI hL hT ⟨_, rfl, hQ⟩
  rw [if_neg h1] at hQ
  refine joinK_intro (fun (p : Int × Int) g => g = h ∧ boundsV v.kind = some p) ?_ fun jk hjk => ?_
  · rintro ⟨a, b⟩ g ⟨rfl, hb⟩
    rw [hb] at hQ
    dsimp only [uncur] at hQ ⊢
    refine ifT_intro (fun h2 => ?_) fun h2 => ?_
    · rw [if_pos (nd h2)] at hQ; exact hQ
    · have h3 := nd' h2
      rw [if_neg h3] at hQ
      refine spec73 hI ⟨_, rfl, ifT_intro (fun h4 => ?_) fun h4 => ?_⟩
      · rw [if_neg (by simp at h4; omega)] at hQ; exact hQ
      · rw [if_pos (by simpa using h4)] at hQ; exact hQ
  · unfold boundsV at hQ hjk
    refine ifT_dec (fun h2 => ?_) fun h2 => ?_
    · exact hjk _ _ ⟨rfl, by rw [if_pos h2]⟩
    · rw [if_neg h2] at hQ
      simp only [if_neg h2] at hjk
      refine joinK_intro (fun (n : Int) g => g = h ∧ (if v.kind = 3 then some ((0 : Int), (1 : Int)) else if v.kind = 4 then some (0, 4321439) else none) = some (0, n)) ?_ fun j2 hj2 => ?_
      · rintro n g ⟨rfl, hb⟩
        exact hjk _ _ ⟨rfl, hb⟩
      · refine ifT_dec (fun h3 => hj2 _ _ ⟨rfl, by rw [if_pos h3]⟩) fun h3 => ifT_dec (fun h4 => hj2 _ _ ⟨rfl, by rw [if_neg h3, if_pos h4]⟩) fun h4 => ?_
        rw [if_neg h3, if_neg h4] at hQ; exact hQ
theorem spec47 (hI : Closed' prog Pm I) (hL : LibI I TT) (hT : TT h) {s : Sl} {ws : List Whr} (hs : At h 5 s (rows whrC ws)) (hl : ws.length < 1000000) (hQ : ∀ h', Ext h h' → Q [int (errWs ws)] h') : I 47 [sls 5 s] Q h := by
  refine hI.go _ _ (den47 I s Q) ?_
  have ls := hs.rowsLen whrC_length (by decide)
  refine loopK_intro (fun (n : Int) h' m => Ext h h' ∧ ∃ i : Nat, i ≤ ws.length ∧ n = i ∧ ws.length - i = m ∧ errWs ws = errWs (ws.drop i)) ws.length ⟨Ext.refl h, 0, by omega, rfl, rfl, rfl⟩ ?_
  rintro n h' m ⟨x1, i, hi, rfl, rfl, he⟩
  refine ifT_dec (fun hlt => ⟨⟨by omega, hlt⟩, ?_⟩) fun hge => ?_
  · have hx := List.getElem?_eq_getElem (show i < ws.length by omega)
    generalize ws[i] = w at hx
    rw [errWs_at hx] at he
    have fin : ∀ (e : Int) g, errW w = e → e ≠ 0 → Ext h g → Q [int e] g := fun e g h1 h2 x => by
      have := hQ g x
      rw [he, if_pos (by rw [h1]; exact h2), h1] at this; exact this
    refine (x1.at_ hs).row whrC_length (by decide) hx fun b o hr => ⟨w.field, w.sign, w.val.kind, w.val.text, w.val.num, hr, ?_⟩
    refine spec44 hI ⟨_, rfl, ifT_intro (fun h2 => fin 5 _ (by unfold errW; rw [if_pos (by simpa using h2)]) (by decide) x1) fun h2 => ?_⟩
    have h2' : ¬ nameB w.field = false := by simpa using h2
    refine spec45 hI fun g x2 => ⟨_, rfl, ifT_dec (fun h3 => fin 4 _ (by unfold errW; rw [if_neg h2', if_pos h3]) (by decide) (x1.trans x2)) fun h3 => ?_⟩
    have e1 : errW w = errV w.val := by unfold errW; rw [if_neg h2', if_neg h3]
    refine spec46 hI hL (hL.ext (x1.trans x2) hT) (v := w.val) ⟨_, rfl, ifT_intro (fun h4 => fin _ _ e1 (nd h4) (x1.trans x2)) fun h4 => ?_⟩
    rw [if_neg (by rw [e1]; exact nd' h4)] at he
    exact ⟨ws.length - (i + 1), by omega, x1.trans x2, i + 1, by omega, by rw [w64] <;> omega, rfl, he⟩
  · have : i = ws.length := by omega
    subst this
    have := hQ _ x1
    rw [he, List.drop_length] at this; exact this
end
end Go.Proofs.YtadakbmoanbcgaaGreatDoorVc
-- CkChk2
namespace Go.Proofs.YtadakbmoanbcgaaGreatDoorVc
open Go.Proofs.Tryz (prog)
def useC (u : Use) : List Cell := [.bool u.n, .bool u.f, .bool u.s, .bool u.w, .bool u.i, .bool u.m, .int .i64 u.vl, .int .i64 u.vh, .int .i64 u.al, .int .i64 u.ah]
section
variable {Pm : Prim} {I : Calls} {TT : Heap → Prop} {Q : Post} {h : Heap}
theorem or_join {p q : Prop} [Decidable p] [Decidable q] {x : Bool → T} (hx : x (decide (p ∨ q)) h) : ifT (decide p) (x (decide p)) (x (decide q)) h :=
  ifT_dec (fun hp => by
    have : decide (p ∨ q) = decide p := by simp [hp]
    rw [this] at hx; exact hx) fun hp => by
    have : decide (p ∨ q) = decide q := by simp [hp]
    rw [this] at hx; exact hx
theorem spec42 (hI : Closed' prog Pm I) {k : Int} (hQ : Q [.agg (useC ((useOf k).getD noUse)), boo (useOf k).isSome] h) : I 42 [int k] Q h := by
  refine hI.go _ _ (den42 I k Q) ?_
  refine joinK_intro (fun (b : Bool) g => g = h ∧ b = decide (k = 1 ∨ k = 2)) ?_ fun jk hjk => or_join (hjk _ _ ⟨rfl, rfl⟩)
  rintro b g ⟨rfl, rfl⟩
  refine ifT_dec (fun h1 => ?_) fun h1 => ?_
  · rw [show useOf k = some noUse by unfold useOf; rw [if_pos h1]; rfl] at hQ; exact hQ
  refine joinK_intro (fun (b : Bool) g' => g' = g ∧ b = decide (k = 3 ∨ k = 4)) ?_ fun jk hjk => or_join (hjk _ _ ⟨rfl, rfl⟩)
  rintro b g ⟨rfl, rfl⟩
  refine ifT_dec (fun h2 => ?_) fun h2 => ?_
  · unfold useOf at hQ; rw [if_neg h1, if_pos h2] at hQ; exact hQ
  refine ifT_dec (fun h3 => ?_) fun h3 => ?_
  · unfold useOf at hQ; rw [if_neg h1, if_neg h2, if_pos h3] at hQ; exact hQ
  refine ifT_dec (fun h4 => ?_) fun h4 => ?_
  · unfold useOf at hQ; rw [if_neg h1, if_neg h2, if_neg h3, if_pos h4] at hQ; exact hQ
  refine ifT_dec (fun h5 => ?_) fun h5 => ?_
  · unfold useOf at hQ; rw [if_neg h1, if_neg h2, if_neg h3, if_neg h4, if_pos h5] at hQ; exact hQ
  refine ifT_dec (fun h6 => ?_) fun h6 => ?_
  · unfold useOf at hQ; rw [if_neg h1, if_neg h2, if_neg h3, if_neg h4, if_neg h5, if_pos h6] at hQ; exact hQ
  refine joinK_intro (fun (b : Bool) g' => g' = g ∧ b = decide (k = 9 ∨ k = 10)) ?_ fun jk hjk => or_join (hjk _ _ ⟨rfl, rfl⟩)
  rintro b g ⟨rfl, rfl⟩
  unfold useOf at hQ
  rw [if_neg h1, if_neg h2, if_neg h3, if_neg h4, if_neg h5, if_neg h6] at hQ
  refine ifT_dec (fun h7 => ?_) fun h7 => ?_
  · rw [if_pos h7] at hQ; exact hQ
  rw [if_neg h7] at hQ
  refine ifT_dec (fun h8 => ?_) fun h8 => ?_
  · rw [if_pos h8] at hQ; exact hQ
  rw [if_neg h8] at hQ
  refine ifT_dec (fun h9 => ?_) fun h9 => ?_
  · rw [if_pos h9] at hQ; exact hQ
  rw [if_neg h9] at hQ
  refine ifT_dec (fun h10 => ?_) fun h10 => ?_
  · rw [if_pos h10] at hQ; exact hQ
  rw [if_neg h10] at hQ
  refine ifT_dec (fun h11 => ?_) fun h11 => ?_
  · rw [if_pos h11] at hQ; exact hQ
  rw [if_neg h11] at hQ; exact hQ
theorem nand_join {a : Bool} {b : Bool} {x : Bool → T} (hx : x (!a && b) h) : ifT (!a) (x b) (x false) h := by
  cases a with
  | false => exact hx
  | true => exact hx
theorem or_next {a b : Bool} {x : Bool → T} {g : T} (h1 : a = true → x true h) (h2 : a = false → g h) : ifT a (x a) g h := by
  cases a with
  | false => exact h2 rfl
  | true => exact h1 rfl
theorem spec43 (hI : Closed' prog Pm I) {c : CT} {sv sw sa : Sl} {u : Use} (hv : sv.len = c.vals.length) (hw : sw.len = c.whs.length) (ha : sa.len = c.args.length) (hQ : Q [boo (formedB c u)] h) : I 43 [.agg (condC c sv sw sa), .agg (useC u)] Q h := by
  refine hI.go _ _ (den43 I c.kind c.name c.field c.sign sv sw c.within c.num sa u.n u.f u.s u.w u.i u.m u.vl u.vh u.al u.ah Q) ?_
  refine joinK_intro (fun (b : Bool) g => g = h ∧ b = (!u.n && !decide (c.name = tE))) ?_ fun jk hjk => nand_join (hjk _ _ ⟨rfl, rfl⟩)
  rintro b1 g ⟨rfl, e1⟩
  refine joinK_intro (fun (b : Bool) g' => g' = g ∧ b = spare u c.name c.field c.sign c.within c.num) ?_ fun jk hjk => ?_
  case refine_2 =>
    refine or_next (b := false) (fun hb => hjk _ _ ⟨rfl, by unfold spare; rw [← e1, hb]; simp⟩) fun hb => ?_
    refine joinK_intro (fun (b : Bool) g' => g' = g ∧ b = (!u.f && !decide (c.field = tE))) ?_ fun j2 hj2 => nand_join (hj2 _ _ ⟨rfl, rfl⟩)
    rintro b2 g' ⟨rfl, e2⟩
    refine joinK_intro (fun (b : Bool) g => g = g' ∧ b = spare u c.name c.field c.sign c.within c.num) (fun b g hb => hjk b g hb) fun j2 hj2 => ?_
    refine or_next (b := false) (fun hb2 => hj2 _ _ ⟨rfl, by unfold spare; rw [← e1, ← e2, hb, hb2]; simp⟩) fun hb2 => ?_
    refine joinK_intro (fun (b : Bool) g => g = g' ∧ b = (!u.s && !decide (c.sign = tE))) ?_ fun j3 hj3 => nand_join (hj3 _ _ ⟨rfl, rfl⟩)
    rintro b3 g ⟨rfl, e3⟩
    refine joinK_intro (fun (b : Bool) g' => g' = g ∧ b = spare u c.name c.field c.sign c.within c.num) (fun b g hb => hj2 b g hb) fun j3 hj3 => ?_
    refine or_next (b := false) (fun hb3 => hj3 _ _ ⟨rfl, by unfold spare; rw [← e1, ← e2, ← e3, hb, hb2, hb3]; simp⟩) fun hb3 => ?_
    refine joinK_intro (fun (b : Bool) g' => g' = g ∧ b = (!u.i && !decide (c.within = 0))) ?_ fun j4 hj4 => nand_join (hj4 _ _ ⟨rfl, rfl⟩)
    rintro b4 g' ⟨rfl, e4⟩
    refine joinK_intro (fun (b : Bool) g => g = g' ∧ b = spare u c.name c.field c.sign c.within c.num) (fun b g hb => hj3 b g hb) fun j4 hj4 => ?_
    refine or_next (b := false) (fun hb4 => hj4 _ _ ⟨rfl, by unfold spare; rw [← e1, ← e2, ← e3, ← e4, hb, hb2, hb3, hb4]; simp⟩) fun hb4 => ?_
    refine joinK_intro (fun (b : Bool) g => g = g' ∧ b = spare u c.name c.field c.sign c.within c.num) (fun b g hb => hj4 b g hb) fun j5 hj5 => ?_
    exact nand_join (hj5 _ _ ⟨rfl, by unfold spare; rw [← e1, ← e2, ← e3, ← e4, hb, hb2, hb3, hb4]; simp⟩)
  rintro b2 g' ⟨rfl, e2⟩
  have hf : formedB c u = (!b2 && (decide (u.vl ≤ (c.vals.length : Int)) && decide ((c.vals.length : Int) ≤ u.vh)) && (decide (u.al ≤ (c.args.length : Int)) && decide ((c.args.length : Int) ≤ u.ah)) &&
      (decide ((c.whs.length : Int) = 0) || (u.w && decide ((c.whs.length : Int) ≤ 5)))) := by rw [e2]; rfl
  rw [hf] at hQ
  rw [hv, hw, ha]
  refine ifT_intro (fun hb => ?_) fun hb => ?_
  · rw [hb] at hQ; exact hQ
  rw [hb, Bool.not_false, Bool.true_and] at hQ
  refine spec48 hI ⟨_, rfl, ?_⟩
  have k1 : decide (u.vl ≤ (c.vals.length : Int) ∧ (c.vals.length : Int) ≤ u.vh) = (decide (u.vl ≤ (c.vals.length : Int)) && decide ((c.vals.length : Int) ≤ u.vh)) := Bool.decide_and _ _
  have k2 : decide (u.al ≤ (c.args.length : Int) ∧ (c.args.length : Int) ≤ u.ah) = (decide (u.al ≤ (c.args.length : Int)) && decide ((c.args.length : Int) ≤ u.ah)) := Bool.decide_and _ _
  rw [← k1, ← k2] at hQ
  refine joinK_intro (fun (b : Bool) g => g = g' ∧ b = !(decide (u.vl ≤ (c.vals.length : Int) ∧ (c.vals.length : Int) ≤ u.vh) && decide (u.al ≤ (c.args.length : Int) ∧ (c.args.length : Int) ≤ u.ah))) ?_ fun j hj => ?_
  case refine_2 =>
    refine ifT_intro (fun h1 => hj _ _ ⟨rfl, ?_⟩) fun h1 => spec48 hI ⟨_, rfl, hj _ _ ⟨rfl, ?_⟩⟩
    · rw [Bool.not_eq_true'] at h1; rw [h1]; rfl
    · rw [Bool.not_eq_false'] at h1; rw [h1, Bool.true_and]
  rintro b3 g ⟨rfl, e3⟩
  refine ifT_intro (fun h1 => ?_) fun h1 => ?_
  · rw [h1] at e3
    have e4 : (decide (u.vl ≤ (c.vals.length : Int) ∧ (c.vals.length : Int) ≤ u.vh) && decide (u.al ≤ (c.args.length : Int) ∧ (c.args.length : Int) ≤ u.ah)) = false := by rw [← Bool.not_not (decide _ && decide _), ← e3]; rfl
    rw [e4] at hQ; exact hQ
  · rw [h1] at e3
    have e4 : (decide (u.vl ≤ (c.vals.length : Int) ∧ (c.vals.length : Int) ≤ u.vh) && decide (u.al ≤ (c.args.length : Int) ∧ (c.args.length : Int) ≤ u.ah)) = true := by rw [← Bool.not_not (decide _ && decide _), ← e3]; rfl
    rw [e4, Bool.true_and] at hQ
    refine ifT_intro (fun h2 => ?_) fun h2 => ?_
    · rw [h2] at hQ; exact hQ
    rw [h2, Bool.false_or] at hQ
    refine ifT_intro (fun h3 => ?_) fun h3 => ?_
    · rw [h3, Bool.true_and] at hQ; exact hQ
    · rw [h3, Bool.false_and] at hQ; exact hQ
/-- One condition, without those within. -/
theorem spec22 (hI : Closed' prog Pm I) (hL : LibI I TT) (hT : TT h) {c : CT} {sv sw sa : Sl} (hv : At h 3 sv (rows valC c.vals)) (hw : At h 5 sw (rows whrC c.whs)) (ha : sa.len = c.args.length) (hlv : c.vals.length < 1000000) (hlw : c.whs.length < 1000000)
    (hQ : ∀ h', Ext h h' → Q [int (errN c)] h') : I 22 [.agg (condC c sv sw sa)] Q h := by
  refine hI.go _ _ (den22 I c.kind c.name c.field c.sign sv sw c.within c.num sa Q) ?_
  have lv := hv.rowsLen valC_length (by decide)
  have lw := hw.rowsLen whrC_length (by decide)
  refine spec42 hI ?_
  cases hu : useOf c.kind with
  | none =>
    refine ⟨_, _, _, _, _, _, _, _, _, _, _, rfl, ifT_intro (fun _ => ?_) fun h => by cases h⟩
    have := hQ _ (Ext.refl h)
    unfold errN at this; rw [hu] at this; exact this
  | some u =>
    refine ⟨u.n, u.f, u.s, u.w, u.i, u.m, u.vl, u.vh, u.al, u.ah, true, rfl, ifT_intro (fun h => by cases h) fun _ => ?_⟩
    have hE : errN c = if formedB c u = false then 3 else if (u.n && !nameB c.name || u.f && !nameB c.field) = true then 5 else if (u.s && decide (signNo c.sign < 0)) = true then 4
      else if errVs c.kind c.vals ≠ 0 then errVs c.kind c.vals else if errWs c.whs ≠ 0 then errWs c.whs
      else if ¬ (0 ≤ c.within ∧ c.within ≤ 4321440) then 1 else if ¬ ((boundsN c.kind).1 ≤ c.num ∧ c.num ≤ (boundsN c.kind).2) then 1 else 0 := by unfold errN; rw [hu]
    rw [hE] at hQ
    refine spec43 hI (c := c) (u := u) lv lw ha ⟨_, rfl, ifT_intro (fun h1 => ?_) fun h1 => ?_⟩
    · have := hQ _ (Ext.refl h)
      rw [if_pos (by simpa using h1)] at this; exact this
    simp only [if_neg (show ¬ formedB c u = false by simpa using h1)] at hQ
    refine joinK_intro (fun (b : Bool) g => g = h ∧ b = (u.n && !nameB c.name || u.f && !nameB c.field)) ?_ fun jk hjk => ?_
    case refine_2 =>
      refine ifT_intro (fun h2 => spec44 hI ⟨_, rfl, ifT_intro (fun h3 => hjk _ _ ⟨rfl, by rw [h2, h3]; rfl⟩) fun h3 => ifT_intro (fun h4 => spec44 hI ⟨_, rfl, hjk _ _ ⟨rfl, by rw [h2, h3, h4]; simp⟩⟩) fun h4 => hjk _ _ ⟨rfl, by rw [h2, h3, h4]; rfl⟩⟩) fun h2 => ?_
      exact ifT_intro (fun h4 => spec44 hI ⟨_, rfl, hjk _ _ ⟨rfl, by rw [h2, h4]; simp⟩⟩) fun h4 => hjk _ _ ⟨rfl, by rw [h2, h4]; rfl⟩
    rintro b g ⟨rfl, e2⟩
    rw [← e2] at hQ
    refine ifT_intro (fun h2 => ?_) fun h2 => ?_
    · have := hQ _ (Ext.refl g)
      rw [if_pos h2] at this; exact this
    simp only [if_neg (show ¬ b = true by rw [h2]; decide)] at hQ
    refine joinK_intro (fun (b : Bool) g' => Ext g g' ∧ b = (u.s && decide (signNo c.sign < 0))) ?_ fun jk hjk => ?_
    case refine_2 =>
      exact ifT_intro (fun h3 => spec45 hI fun g2 x2 => ⟨_, rfl, hjk _ _ ⟨x2, by rw [h3]; rfl⟩⟩) fun h3 => hjk _ _ ⟨Ext.refl _, by rw [h3]; rfl⟩
    rintro b3 g3 ⟨x3, e3⟩
    rw [← e3] at hQ
    refine ifT_intro (fun h3 => ?_) fun h3 => ?_
    · have := hQ _ x3
      rw [if_pos h3] at this; exact this
    simp only [if_neg (show ¬ b3 = true by rw [h3]; decide)] at hQ
    replace hv := x3.at_ hv
    replace hw := x3.at_ hw
    replace hT := hL.ext x3 hT
    refine loopK_intro (fun (n : Int) h' m => h' = g3 ∧ ∃ i : Nat, i ≤ c.vals.length ∧ n = i ∧ c.vals.length - i = m ∧ errVs c.kind c.vals = errVs c.kind (c.vals.drop i)) c.vals.length ⟨rfl, 0, by omega, rfl, rfl, rfl⟩ ?_
    rintro n h' m ⟨rfl, i, hi, rfl, rfl, he⟩
    refine ifT_dec (fun hlt => ⟨⟨by omega, hlt⟩, ?_⟩) fun hge => ?_
    · have hx := List.getElem?_eq_getElem (show i < c.vals.length by omega)
      generalize c.vals[i] = v at hx
      rw [errVs_at hx] at he
      have next : errV v = 0 → ¬ ((c.kind = 9 ∨ c.kind = 10) ∧ v.kind ≠ 1) → (∃ m', m' < c.vals.length - i ∧ h' = h' ∧ ∃ i' : Nat, i' ≤ c.vals.length ∧ IntKind.i64.wrap ((i : Int) + 1) = (i' : Int) ∧ c.vals.length - i' = m' ∧ errVs c.kind c.vals = errVs c.kind (c.vals.drop i')) := fun a1 a2 => by
        rw [if_neg (by rw [a1]; decide), if_neg a2] at he
        exact ⟨c.vals.length - (i + 1), by omega, rfl, i + 1, by omega, by rw [w64] <;> omega, rfl, he⟩
      refine hv.row valC_length (by decide) hx fun b o hr => ⟨v.kind, v.text, v.num, hr, spec46 hI hL hT (v := v) ⟨_, rfl, ifT_intro (fun h4 => ?_) fun h4 => ?_⟩⟩
      · have h5 := nd h4
        rw [if_pos h5] at he
        have := hQ _ x3
        rw [he, if_pos h5] at this; exact this
      have h5 := nd' h4
      have h5' : errV v = 0 := Decidable.of_not_not h5
      rw [if_neg h5] at he
      have bad : (c.kind = 9 ∨ c.kind = 10) → v.kind ≠ 1 → Q [int 10] h' := fun a1 a2 => by
        rw [if_pos ⟨a1, a2⟩] at he
        have := hQ _ x3
        rw [he, if_pos (by decide)] at this; exact this
      refine ifT_dec (fun h6 => ifT_intro (fun h7 => bad (.inl h6) (nd h7)) fun h7 => next h5' fun a => nd' h7 a.2) fun h6 => ifT_dec (fun h7 => ifT_intro (fun h8 => bad (.inr h7) (nd h8)) fun h8 => next h5' fun a => nd' h8 a.2) fun h7 => next h5' fun a => a.1.elim h6 h7
    · have : i = c.vals.length := by omega
      subst this
      rw [List.drop_length] at he
      have he0 : errVs c.kind c.vals = 0 := he
      rw [he0] at hQ
      simp only [if_neg (show ¬ (0 : Int) ≠ 0 by decide)] at hQ
      refine spec47 hI hL hT hw hlw fun g4 x4 => ⟨_, rfl, ifT_intro (fun h4 => ?_) fun h4 => ?_⟩
      · have := hQ _ (x3.trans x4)
        rw [if_pos (nd h4)] at this; exact this
      have X4 := x3.trans x4
      simp only [if_neg (nd' h4)] at hQ
      refine joinK_intro (fun (p : Int × Int) g => g = g4 ∧ p = boundsN c.kind) ?_ fun jk hjk => ifT_dec (fun h5 => hjk _ _ ⟨rfl, by unfold boundsN; rw [if_pos h5]⟩) fun h5 => hjk _ _ ⟨rfl, by unfold boundsN; rw [if_neg h5]⟩
      rintro ⟨lo, hi2⟩ g ⟨rfl, hb⟩
      rw [← hb] at hQ
      dsimp only [uncur] at hQ ⊢
      have fin := hQ _ X4
      refine spec48 hI ⟨_, rfl, ifT_intro (fun h5 => ?_) fun h5 => ?_⟩
      · rw [if_pos (nd h5)] at fin; exact fin
      have h5' : ¬ ¬ (0 ≤ c.within ∧ c.within ≤ 4321440) := nd' h5
      rw [if_neg h5'] at fin
      refine spec48 hI ⟨_, rfl, ifT_intro (fun h6 => ?_) fun h6 => ?_⟩
      · rw [if_pos (nd h6)] at fin; exact fin
      · rw [if_neg (nd' h6)] at fin; exact fin
end
end Go.Proofs.YtadakbmoanbcgaaGreatDoorVc
-- CkChk3
namespace Go.Proofs.YtadakbmoanbcgaaGreatDoorVc
open Go.Proofs.Tryz (prog)
section
variable {Pm : Prim} {I : Calls} {TT : Heap → Prop} {Q : Post} {h : Heap}
/-- A walk through a condition, as long as nothing is wrong. -/
theorem spec21 (hI : Closed' prog Pm I) {g : FuncId} {caps : List (Nat × Nat)} {e : CT → Int} {P : Heap → Prop} {G : CT → Prop} (hP : ∀ {h h' : Heap}, Ext h h' → P h → P h') (hG : ∀ {c a : CT}, G c → a ∈ c.args → G a)
    (hg : ∀ (c : CT) (sv sw sa : Sl) (rs : List (List Cell)) (h : Heap) (Q : Post), P h → G c → c.size < 1000000 → CondAt h c (condC c sv sw sa) → At h 3 sv (rows valC c.vals) → At h 5 sw (rows whrC c.whs) → At h 9 sa rs.flatten → CondsAt h c.args rs → (∀ h', Ext h h' → Q [int (e c)] h') →
      I g (.agg (condC c sv sw sa) :: caps.map fun a => .one (.ptr (some a))) Q h) :
    ∀ (N : Nat) (c : CT) (cs : List Cell) (h : Heap) (Q : Post), c.size ≤ N → c.size < 1000000 → G c → P h → CondAt h c cs → (∀ h', Ext h h' → Q [int (trE e c)] h') → I 21 [.agg cs, .one (.func (some (g, caps)))] Q h := by
  intro N
  induction N with
  | zero => intro c cs h Q hN; have := c.one_le; omega
  | succ N ih =>
  intro c cs h Q hN hs hgc hp hc hQ
  obtain ⟨sv, sw, sa, rfl, hv, hw, rs, ha, has⟩ := hc.parts
  refine hI.go _ _ (den21 I c.kind c.name c.field c.sign sv sw c.within c.num sa (some (g, caps)) Q) ?_
  rw [trE_eq] at hQ
  refine hg c sv sw sa rs h _ hp hgc hs hc hv hw ha has fun h1 x1 => ⟨_, rfl, ifT_intro (fun h2 => ?_) fun h2 => ?_⟩
  · have := hQ _ x1
    rw [if_pos (nd h2)] at this; exact this
  simp only [if_neg (nd' h2)] at hQ
  have hsz := c.size_eq
  have hal := args_le c.args
  obtain ⟨hlr, h9⟩ := has.len
  have hla : sa.len = c.args.length := by
    have := ha.1
    rw [flat9 h9] at this; omega
  refine loopK_intro (fun (n : Int) h' m => Ext h h' ∧ ∃ i : Nat, i ≤ c.args.length ∧ n = i ∧ c.args.length - i = m ∧ trsE e c.args = trsE e (c.args.drop i)) c.args.length ⟨x1, 0, by omega, rfl, rfl, rfl⟩ ?_
  rintro n h' m ⟨x2, i, hi, rfl, rfl, he⟩
  refine ifT_dec (fun hlt => ⟨⟨by omega, hlt⟩, ?_⟩) fun hge => ?_
  · have hx := List.getElem?_eq_getElem (show i < c.args.length by omega)
    generalize c.args[i] = a at hx
    have ham := List.mem_of_getElem? hx
    have hsa := size_mem ham
    rw [trsE_at hx] at he
    refine (CondsAt.ext x2 has).row (x2.at_ ha) hx fun b o r hca hr => ?_
    obtain ⟨sv2, sw2, sa2, rfl, _⟩ := hca.parts
    refine ⟨a.kind, a.name, a.field, a.sign, sv2, sw2, a.within, a.num, sa2, hr, ih a (condC a sv2 sw2 sa2) h' _ (by omega) (by omega) (hG hgc ham) (hP x2 hp) hca fun h3 x3 => ⟨_, rfl, ifT_intro (fun h4 => ?_) fun h4 => ?_⟩⟩
    · have := hQ _ (x2.trans x3)
      rw [he, if_pos (nd h4)] at this; exact this
    · rw [if_neg (nd' h4)] at he
      exact ⟨c.args.length - (i + 1), by omega, x2.trans x3, i + 1, by omega, by rw [w64] <;> omega, rfl, he⟩
  · have : i = c.args.length := by omega
    subst this
    have := hQ _ x2
    rw [he, List.drop_length] at this; exact this
/-- How large a condition is: the closure. -/
theorem spec39 (hI : Closed' prog Pm I) {i j : Nat} (hij : j ≠ i) : ∀ (N : Nat) (c : CT) (cs : List Cell) (h : Heap) (Q : Post) (many lev : Nat), c.size ≤ N → c.size < 1000000 → many ≤ 300 → 1 ≤ lev → lev ≤ 21 →
    h i = some (.cells false [.int .i64 many]) → h j = some (.cells false [.func (some (39, [(i, 0), (j, 0)]))]) → CondAt (h.del i) c cs →
    (∀ h' (m' : Nat) b, Ext (h.del i) (h'.del i) → h' i = some (.cells false [.int .i64 m']) → (b = false → m' = many + c.size ∧ many + c.size ≤ 300 ∧ lev + c.deep ≤ 21) → (b = true → 300 < many + c.size ∨ 21 < lev + c.deep) → Q [boo b] h') →
    I 39 [.agg cs, int lev, .one (.ptr (some (i, 0))), .one (.ptr (some (j, 0)))] Q h := by
  intro N
  induction N with
  | zero => intro c cs h Q many lev hN; have := c.one_le; omega
  | succ N ih =>
  intro c cs h Q many lev hN hs hm hl1 hl2 hi hj hc hQ
  obtain ⟨sv, sw, sa, rfl, hv, hw, rs, ha, has⟩ := hc.parts
  refine hI.go _ _ (den39 I c.kind c.name c.field c.sign sv sw c.within c.num sa lev i 0 j 0 Q) ?_
  have hsz := c.size_eq
  have hdp := c.deep_eq
  have hal := args_le c.args
  obtain ⟨hlr, h9⟩ := has.len
  have hla : sa.len = c.args.length := by
    have := ha.1
    rw [flat9 h9] at this; omega
  refine newK_intro fun q h1 hn he => ?_
  have hqi : q ≠ i := fun e => by rw [e, hi] at hn; cases hn
  have hqj : q ≠ j := fun e => by rw [e, hj] at hn; cases hn
  have i1 : h1 i = some (.cells false [.int .i64 many]) := by rw [he, set_ne _ _ hqi.symm]; exact hi
  refine ⟨many, read_cell i1 rfl, storeK_one i1 (by simp) ?_⟩
  have ew : IntKind.i64.wrap ((many : Int) + 1) = ((many + 1 : Nat) : Int) := by rw [w64] <;> omega
  rw [ew]
  rw [show ([Cell.int IntKind.i64 (many : Int)].set 0 (.int .i64 ((many + 1 : Nat) : Int))) = [.int .i64 ((many + 1 : Nat) : Int)] from rfl]
  have i2 : (h1.set i (.cells false [.int .i64 ((many + 1 : Nat) : Int)])) i = some (.cells false [.int .i64 ((many + 1 : Nat) : Int)]) := set_eq _ _ _
  have q2 : (h1.set i (.cells false [.int .i64 ((many + 1 : Nat) : Int)])) q = some (.cells false [.int .i64 (lev : Int)]) := by rw [set_ne _ _ hqi, he, set_eq]
  have j2 : (h1.set i (.cells false [.int .i64 ((many + 1 : Nat) : Int)])) j = some (.cells false [.func (some (39, [(i, 0), (j, 0)]))]) := by rw [set_ne _ _ hij, he, set_ne _ _ hqj.symm]; exact hj
  have x2 : Ext (h.del i) ((h1.set i (.cells false [.int .i64 ((many + 1 : Nat) : Int)])).del i) := by
    rw [del_set]; exact (he ▸ Ext.new hn : Ext h h1).del
  generalize h1.set i (.cells false [.int .i64 ((many + 1 : Nat) : Int)]) = h2 at i2 q2 j2 x2
  show joinK _ _ h2
  refine joinK_intro (fun (b : Bool) g => g = h2 ∧ b = decide (300 < many + 1 ∨ 20 < lev)) ?_ fun jk hjk => ⟨_, read_cell i2 rfl, ifT_dec (fun h3 => hjk _ _ ⟨rfl, (decide_eq_true (.inl (by omega))).symm⟩) fun h3 => ⟨_, read_cell q2 rfl, hjk _ _ ⟨rfl, by rw [decide_eq_decide]; omega⟩⟩⟩
  rintro b g ⟨rfl, rfl⟩
  refine ifT_dec (fun h3 => hQ g (many + 1) true x2 i2 (fun h => by cases h) fun _ => by omega) fun h3 => ?_
  refine hI.go _ _ (den40 I sa (some (41, [(j, 0), (q, 0)])) _) ?_
  refine hI.go _ _ (den68 I sa (some (41, [(j, 0), (q, 0)])) _) ?_
  refine loopK_intro (fun (n : Int) h' m => ∃ p : Nat, p ≤ c.args.length ∧ n = p ∧ c.args.length - p = m ∧ Ext (h.del i) (h'.del i) ∧ h' i = some (.cells false [.int .i64 ((many + 1 + sizes (c.args.take p) : Nat) : Int)]) ∧ h' q = some (.cells false [.int .i64 (lev : Int)]) ∧ h' j = some (.cells false [.func (some (39, [(i, 0), (j, 0)]))]) ∧
      many + 1 + sizes (c.args.take p) ≤ 300 ∧ lev + 1 + deeps (c.args.take p) ≤ 21) c.args.length
    ⟨0, by omega, rfl, rfl, x2, i2, q2, j2, by simp [sizes]; omega, by simp [deeps]; omega⟩ ?_
  rintro n h' m ⟨p, hp, rfl, rfl, x3, i3, q3, j3, hmp, hdp2⟩
  refine ifT_dec (fun hlt => ⟨⟨by omega, hlt⟩, ?_⟩) fun hge => ?_
  · have hx := List.getElem?_eq_getElem (show p < c.args.length by omega)
    generalize c.args[p] = a at hx
    have ham := List.mem_of_getElem? hx
    have hsa := size_mem ham
    have hda := deep_mem ham
    have st := sizes_take hx
    have dt := deeps_take hx
    have sl := sizes_take_le c.args (p + 1)
    have dl := deeps_take_le c.args (p + 1)
    refine has.rowIn (x3.trans (ext_del h' i)) ha hx fun b o r hca0 hr => ?_
    have hca := CondAt.ext x3 hca0
    obtain ⟨sv2, sw2, sa2, rfl, _⟩ := hca.parts
    refine ⟨a.kind, a.name, a.field, a.sign, sv2, sw2, a.within, a.num, sa2, hr, ?_⟩
    refine hI.go _ _ (den41 I a.kind a.name a.field a.sign sv2 sw2 a.within a.num sa2 j 0 q 0 _) ?_
    refine ⟨_, read_cell j3 rfl, _, read_cell q3 rfl, ?_⟩
    have ew2 : IntKind.i64.wrap ((lev : Int) + 1) = ((lev + 1 : Nat) : Int) := by rw [w64] <;> omega
    rw [ew2]
    refine ih a (condC a sv2 sw2 sa2) h' _ (many + 1 + sizes (c.args.take p)) (lev + 1) (by omega) (by omega) hmp (by omega) (by omega) i3 j3 hca fun h4 m' b x4 i4 hf ht => ⟨_, rfl, _, rfl, ifT_intro (fun hb => ⟨_, rfl, ?_⟩) fun hb => ?_⟩
    · have := ht hb
      refine ⟨_, rfl, hQ h4 m' _ (x3.trans x4) i4 (fun h => ?_) fun _ => by omega⟩
      rw [decide_eq_true (show (p : Int) ≥ 0 by omega)] at h; cases h
    · obtain ⟨f1, f2, f3⟩ := hf hb
      have hq4 : h4 q = some (.cells false [.int .i64 (lev : Int)]) := by
        have := x4 q _ (by rw [del_ne _ hqi]; exact q3)
        rw [del_ne _ hqi] at this; exact this
      have hj4 : h4 j = some (.cells false [.func (some (39, [(i, 0), (j, 0)]))]) := by
        have := x4 j _ (by rw [del_ne _ hij]; exact j3)
        rw [del_ne _ hij] at this; exact this
      refine ⟨c.args.length - (p + 1), by omega, p + 1, by omega, by rw [w64] <;> omega, rfl, x3.trans x4, ?_, hq4, hj4, by omega, by omega⟩
      rw [i4, f1, st]
      congr 5
      omega
  · have : p = c.args.length := by omega
    subst this
    rw [List.take_length] at hmp hdp2 i3
    refine ⟨_, rfl, _, rfl, hQ h' _ _ x3 i3 (fun _ => ⟨by omega, by omega, by omega⟩) fun h => ?_⟩
    exact absurd (of_decide_eq_true h) (by decide)
/-- Is a condition too large? -/
theorem spec20 (hI : Closed' prog Pm I) {c : CT} {cs : List Cell} (hc : CondAt h c cs) (hs : c.size < 1000000) (hQ : ∀ h', Ext h h' → Q [boo (decide (300 < c.size ∨ 20 < c.deep))] h') : I 20 [.agg cs] Q h := by
  obtain ⟨sv, sw, sa, rfl, _⟩ := hc.parts
  refine hI.go _ _ (den20 I c.kind c.name c.field c.sign sv sw c.within c.num sa Q) ?_
  refine newK_intro fun i h1 hn1 he1 => ?_
  have i1 : h1 i = some (.cells false [.int .i64 0]) := by rw [he1, set_eq]
  refine storeK_one i1 (by simp) ?_
  rw [show ([Cell.int IntKind.i64 0].set 0 (.int .i64 0)) = [.int .i64 0] from rfl, show h1.set i (.cells false [.int .i64 0]) = h1 by rw [he1, set_set]]
  refine newK_intro fun j h2 hn2 he2 => ?_
  have hij : j ≠ i := fun e => by rw [e, i1] at hn2; cases hn2
  have j2 : h2 j = some (.cells false [.func none]) := by rw [he2, set_eq]
  refine storeK_one j2 (by simp) ?_
  rw [show ([Cell.func none].set 0 (.func (some (39, [(i, 0), (j, 0)])))) = [.func (some (39, [(i, 0), (j, 0)]))] from rfl]
  have x1 : Ext h h1 := he1 ▸ Ext.new hn1
  have e3 : h2.set j (.cells false [.func (some (39, [(i, 0), (j, 0)]))]) = h1.set j (.cells false [.func (some (39, [(i, 0), (j, 0)]))]) := by rw [he2, set_set]
  rw [e3]
  have x3 : Ext h1 (h1.set j (.cells false [.func (some (39, [(i, 0), (j, 0)]))])) := Ext.new hn2
  have i3 : (h1.set j (.cells false [.func (some (39, [(i, 0), (j, 0)]))])) i = some (.cells false [.int .i64 ((0 : Nat) : Int)]) := x3 _ _ i1
  have j3 := set_eq h1 j (.cells false [.func (some (39, [(i, 0), (j, 0)]))])
  have h0 : h.del i = h := by
    funext q
    by_cases e : q = i
    · subst e; rw [Heap.del_same]; exact hn1.symm
    · rw [del_ne _ e]
  have c3 : CondAt ((h1.set j (.cells false [.func (some (39, [(i, 0), (j, 0)]))])).del i) c (condC c sv sw sa) := CondAt.ext (by rw [← h0]; exact (x1.trans x3).del) hc
  generalize h1.set j (.cells false [.func (some (39, [(i, 0), (j, 0)]))]) = h3 at x3 i3 j3 c3
  refine ⟨_, read_cell j3 rfl, ?_⟩
  refine spec39 hI hij c.size c _ h3 _ 0 1 (Nat.le_refl _) hs (by omega) (by omega) (by omega) i3 j3 c3 fun h4 m' b x4 i4 hf ht => ⟨_, rfl, ?_⟩
  have hb : b = decide (300 < c.size ∨ 20 < c.deep) := by
    cases b with
    | false => have := hf rfl; exact (decide_eq_false (by omega)).symm
    | true => have := ht rfl; exact (decide_eq_true (by omega)).symm
  rw [hb]
  refine hQ h4 ?_
  have := (x1.trans x3).del (i := i)
  rw [h0] at this
  exact (this.trans x4).trans (ext_del h4 i)
/-- CheckCond. -/
theorem spec8 (hI : Closed' prog Pm I) (hL : LibI I TT) (hT : TT h) {c : CT} {cs : List Cell} (hc : CondAt h c cs) (hs : c.size < 1000000) (hn : c.narrow) (hQ : ∀ h', Ext h h' → Q [int (errCond c)] h') : I 8 [.agg cs] Q h := by
  obtain ⟨sv, sw, sa, rfl, _⟩ := hc.parts
  refine hI.go _ _ (den8 I c.kind c.name c.field c.sign sv sw c.within c.num sa Q) ?_
  unfold errCond at hQ
  refine spec20 hI hc hs fun h1 x1 => ⟨_, rfl, ifT_dec (fun h2 => ?_) fun h2 => ?_⟩
  · have := hQ _ x1
    rw [if_pos h2] at this; exact this
  · simp only [if_neg h2] at hQ
    refine spec21 hI (P := TT) (G := CT.narrow) (e := errN) (fun x t => hL.ext x t) (fun h1 h2 => CT.narrow_arg h1 h2) (fun c sv sw sa rs h Q hp hn hs hc hv hw ha has hq => ?_) c.size c _ h1 _ (Nat.le_refl _) hs hn (hL.ext x1 hT) (CondAt.ext x1 hc) fun h3 x3 => ⟨_, rfl, hQ _ (x1.trans x3)⟩
    obtain ⟨hlr, h9⟩ := has.len
    have hla : sa.len = c.args.length := by
      have := ha.1
      rw [flat9 h9] at this; omega
    obtain ⟨n1, n2, _⟩ := (c.narrow_eq).1 hn
    exact spec22 hI hL hp hv hw hla n1 n2 hq
end
end Go.Proofs.YtadakbmoanbcgaaGreatDoorVc
