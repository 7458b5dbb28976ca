/- The checks of records, where they are right. The checks of events: what they stand on. The check of one event, where it is right. The check of events, where they are right. The checks ahead of a question, where all is right. Looking for a field. -/
import Derived.Test.YtadakbmoanbcgaaGreatDoorVcCkC
import Derived.Test.YtadakbmoanbcgaaGreatDoorVcCkG
set_option linter.unusedSimpArgs false
set_option linter.unusedVariables false
-- CkChk4
namespace Go.Proofs.YtadakbmoanbcgaaGreatDoorVc
open Go.Proofs.Tryz (prog)
def afterN (a b : ByteArray) : Bool := Op.bytesLess b.toList a.toList || decide (b = a)
theorem pair_at {α : Type} {R : α → α → Prop} {xs : List α} {i j : Nat} {a b : α} (hp : xs.Pairwise R) (hij : i < j) (ha : xs[i]? = some a) (hb : xs[j]? = some b) : R a b := by
  obtain ⟨h1, rfl⟩ := List.getElem?_eq_some_iff.1 ha
  obtain ⟨h2, rfl⟩ := List.getElem?_eq_some_iff.1 hb
  exact List.pairwise_iff_getElem.1 hp i j h1 h2 hij
/-- Names of fields that are drawn stand in order. -/
theorem condF_order : condF.Pairwise fun a b => afterN a b = false := by decide +kernel
theorem condF_key : ∀ v ∈ condF, isKey v = true := by decide +kernel
section
variable {Pm : Prim} {I : Calls} {Q : Post} {h : Heap} {TT : Heap → Prop}
theorem spec118 (hI : Closed' prog Pm I) (hL : LibI I TT) (hT : TT h) {s : Sl} {fs : List Fld} (hs : At h 4 s (rows fldC fs)) (hl : fs.length ≤ 30) (hk : ∀ f ∈ fs, isKey f.name = true ∧ errV f.val = 0) (hp : fs.Pairwise fun a b => afterN a.name b.name = false) (hQ : Q [int 0] h) :
    I 118 [.one (.slice 4 s)] Q h := by
  have hlen : s.len = fs.length := hs.rowsLen fldC_length (by decide)
  refine hI.go _ _ (den118 I s Q) ?_
  refine ifT_dec (fun e => by omega) fun _ => ?_
  refine loopK_intro (fun (n : Int) h' m => h' = h ∧ ∃ i : Nat, i ≤ fs.length ∧ n = i ∧ fs.length - i = m) fs.length ⟨rfl, 0, by omega, rfl, rfl⟩ ?_
  rintro n h' m ⟨rfl, i, hi, rfl, rfl⟩
  refine ifT_dec (fun hlt => ⟨⟨by omega, hlt⟩, ?_⟩) fun _ => hQ
  have hx := List.getElem?_eq_getElem (show i < fs.length by omega)
  generalize fs[i] = f at hx
  obtain ⟨k1, k2⟩ := hk f (List.mem_of_getElem? hx)
  have next : ∃ m', m' < fs.length - i ∧ h' = h' ∧ ∃ i' : Nat, i' ≤ fs.length ∧ IntKind.i64.wrap ((i : Int) + 1) = i' ∧ fs.length - i' = m' := ⟨fs.length - (i + 1), by omega, rfl, i + 1, by omega, by rw [w64] <;> omega, rfl⟩
  refine hs.row fldC_length (by decide) hx fun bb oo hr => ⟨f.name, f.val.kind, f.val.text, f.val.num, hr, ?_⟩
  refine spec69 hI ⟨_, rfl, ifT_intro (fun e => by rw [k1] at e; cases e) fun _ => ?_⟩
  refine spec46 hI hL hT (v := f.val) ⟨_, rfl, ifT_intro (fun e => absurd k2 (nd e)) fun _ => ifT_dec (fun e => ?_) fun _ => next⟩
  have ew : IntKind.i64.wrap ((i : Int) - 1) = ((i - 1 : Nat) : Int) := by rw [w64] <;> omega
  rw [ew]
  have hy := List.getElem?_eq_getElem (show i - 1 < fs.length by omega)
  generalize fs[i - 1] = g at hy
  have ho := pair_at hp (show i - 1 < i by omega) hy hx
  refine ⟨⟨by omega, by omega⟩, hs.rowCell fldC_length (by decide) (j := 0) (c := .str g.name) hy rfl fun bb oo hr => ⟨g.name, hr, ifT_intro (fun e => ?_) fun _ => next⟩⟩
  exact absurd e (by unfold afterN at ho; rw [ho]; decide)
/-- .. of a record that is drawn. -/
theorem record_ok {fs : List Fld} (h1 : (fs.map (·.name)).Sublist condF) (h2 : ∀ f ∈ fs, errV f.val = 0) : fs.length ≤ 30 ∧ (∀ f ∈ fs, isKey f.name = true ∧ errV f.val = 0) ∧ fs.Pairwise fun a b => afterN a.name b.name = false := by
  refine ⟨?_, fun f hf => ⟨condF_key _ (h1.subset (List.mem_map_of_mem hf)), h2 f hf⟩, ?_⟩
  · have := h1.length_le
    simp [condF] at this; omega
  · have := condF_order.sublist h1
    rw [List.pairwise_map] at this
    exact this
end
end Go.Proofs.YtadakbmoanbcgaaGreatDoorVc
-- CkChk5
namespace Go.Proofs.YtadakbmoanbcgaaGreatDoorVc
open Go.Proofs.Tryz (prog)
def cmpI (a b : Int) : Int := if a < b then -1 else if a > b then 1 else 0
section
variable {Pm : Prim} {I : Calls} {Q : Post} {h : Heap} {TT : Heap → Prop}
theorem spec155 (hI : Closed' prog Pm I) {n a b : Int} (hQ : Q [boo (decide (a ≤ n ∧ n ≤ b))] h) : I 155 [int n, int a, int b] Q h := by
  refine hI.go _ _ (den155 I n a b Q) ?_
  refine ifT_dec (fun e => ?_) fun e => ?_
  · have : decide (a ≤ n ∧ n ≤ b) = decide (n ≤ b) := by simp [e]
    rw [this] at hQ; exact hQ
  · have : decide (a ≤ n ∧ n ≤ b) = false := by simp [e]
    rw [this] at hQ; exact hQ
theorem spec147 (hI : Closed' prog Pm I) {n : Int} (hQ : Q [boo false] h) : I 147 [int n] Q h := by
  refine hI.go _ _ (den147 I n Q) ?_
  unfold vc147; simpa using hQ
theorem spec129 (hI : Closed' prog Pm I) {a b : Int} (hQ : Q [int (cmpI a b)] h) : I 129 [int a, int b] Q h := by
  refine hI.go _ _ (den129 I a b Q) ?_
  refine spec147 hI ⟨false, rfl, spec147 hI ⟨false, rfl, ?_⟩⟩
  unfold cmpI at hQ
  refine ifT_intro (fun e => by cases e) fun _ => ifT_intro (fun e => by cases e) fun _ => ifT_dec (fun e => ?_) fun e => ifT_dec (fun e2 => ?_) fun e2 => ?_
  · rw [if_pos e] at hQ; exact hQ
  · rw [if_neg e, if_pos e2] at hQ; exact hQ
  · rw [if_neg e, if_neg e2] at hQ; exact hQ
/-- The first of two that is not nothing. -/
theorem spec143 (hI : Closed' prog Pm I) {s : Sl} {a b : Int} (hs : At h 1 s (ints [a, b])) (hQ : Q [int (if a ≠ 0 then a else b)] h) : I 143 [.one (.slice 1 s)] Q h := by
  have hl : s.len = 2 := by have := hs.1; simp [ints] at this; exact this
  refine hI.go _ _ (den143 I s Q) ?_
  refine loopK_intro (fun (n : Int) h' m => h' = h ∧ ∃ i : Nat, i ≤ 2 ∧ n = i ∧ 2 - i = m ∧ (if a ≠ 0 then a else b) = if i = 0 then (if a ≠ 0 then a else b) else if i = 1 then b else 0) 2 ⟨rfl, 0, by omega, rfl, rfl, rfl⟩ ?_
  rintro n h' m ⟨rfl, i, hi, rfl, rfl, he⟩
  refine ifT_dec (fun hlt => ⟨⟨by omega, hlt⟩, ?_⟩) fun hge => ?_
  · have hi2 : i = 0 ∨ i = 1 := by omega
    rcases hi2 with rfl | rfl
    · refine hs.cell (i := 0) (c := .int .i64 a) rfl fun bb oo hr => ⟨a, hr, ifT_intro (fun e => ?_) fun e => ⟨1, by omega, rfl, 1, by omega, by decide, rfl, ?_⟩⟩
      · rw [if_pos (nd e)] at hQ; exact hQ
      · rw [if_neg (nd' e)]; rfl
    · refine hs.cell (i := 1) (c := .int .i64 b) rfl fun bb oo hr => ⟨b, hr, ifT_intro (fun e => ?_) fun e => ⟨0, by omega, rfl, 2, by omega, by decide, rfl, ?_⟩⟩
      · rw [he] at hQ; exact hQ
      · rw [he]; simpa using nd' e
  · have : i = 2 := by omega
    subst this
    rw [he] at hQ; exact hQ
/-- Which of two events comes first. -/
theorem spec142 (hI : Closed' prog Pm I) {e f : Evt} {sa sb : Sl} (hQ : ∀ h', Ext h h' → Q [int (if cmpI e.at_ f.at_ ≠ 0 then cmpI e.at_ f.at_ else cmpS e.id f.id)] h') : I 142 [.agg (evtC e sa), .agg (evtC f sb)] Q h := by
  refine hI.go _ _ (den142 I e.id e.name e.at_ e.whoK e.whoT sa f.id f.name f.at_ f.whoK f.whoT sb Q) ?_
  refine spec129 hI ⟨_, rfl, spec125 hI ⟨_, rfl, newK_intro fun i1 h1 hn he => ?_⟩⟩
  have x1 : Ext h h1 := he ▸ Ext.new hn
  refine spec143 hI (a := cmpI e.at_ f.at_) (b := cmpS e.id f.id) ?_ ⟨_, rfl, hQ h1 x1⟩
  refine ⟨rfl, .inr ?_⟩
  show h1.read i1 0 (2 * 1) = _
  rw [he, read_block (Heap.set_same ..) (show 0 + 2 * 1 ≤ 2 by decide)]; rfl
end
end Go.Proofs.YtadakbmoanbcgaaGreatDoorVc
-- CkChk6
namespace Go.Proofs.YtadakbmoanbcgaaGreatDoorVc
open Go.Proofs.Tryz (prog)
abbrev annS : ByteArray := ⟨#[97, 110, 110, 64, 98, 46, 100, 101]⟩
theorem condE_key : ∀ v ∈ condE, isKey v = true := by decide +kernel
theorem fields_ok {e : Evt} (g : GoodE e) : e.fields.length ≤ 30 ∧ (∀ f ∈ e.fields, isKey f.name = true ∧ errV f.val = 0) ∧ e.fields.Pairwise fun a b => afterN a.name b.name = false := by
  obtain ⟨c, it, he, hc, hi⟩ := g.flds
  have k1 : isKey ⟨#[99, 101, 110, 116, 115]⟩ = true := by decide +kernel
  have k2 : isKey ⟨#[105, 116, 101, 109]⟩ = true := by decide +kernel
  have k3 : afterN ⟨#[99, 101, 110, 116, 115]⟩ ⟨#[105, 116, 101, 109]⟩ = false := by decide +kernel
  have v1 : ∀ n ∈ ([0, 5, 100, -5] : List Int), errV ⟨2, ByteArray.empty, n⟩ = 0 := fun n hn => num_ok (by simp at hn; omega) (by simp at hn; omega)
  have v2 : ∀ s ∈ ([⟨#[104, 97, 116]⟩, ⟨#[99, 97, 112]⟩] : List ByteArray), errV ⟨1, s, 0⟩ = 0 := fun s hs => text_ok s (by simp at hs ⊢; rcases hs with rfl | rfl <;> simp)
  rw [he]
  rcases hc with rfl | ⟨n, hn, rfl⟩ <;> rcases hi with rfl | ⟨s, hs, rfl⟩
  · simp
  · refine ⟨by simp, fun f hf => ?_, by simp⟩
    have := List.mem_singleton.1 (by simpa using hf : f ∈ [_]); subst this; exact ⟨k2, v2 s hs⟩
  · refine ⟨by simp, fun f hf => ?_, by simp⟩
    have := List.mem_singleton.1 (by simpa using hf : f ∈ [_]); subst this; exact ⟨k1, v1 n hn⟩
  · refine ⟨by simp, fun f hf => ?_, by simpa using k3⟩
    have hf2 : f = ⟨⟨#[99, 101, 110, 116, 115]⟩, ⟨2, ByteArray.empty, n⟩⟩ ∨ f = ⟨⟨#[105, 116, 101, 109]⟩, ⟨1, s, 0⟩⟩ := by simpa using hf
    rcases hf2 with rfl | rfl
    · exact ⟨k1, v1 n hn⟩
    · exact ⟨k2, v2 s hs⟩
section
variable {Pm : Prim} {I : Calls} {Q : Post} {h : Heap} {TT : Heap → Prop}
theorem spec141 (hI : Closed' prog Pm I) (hL : LibI I TT) (hM : ∀ (Q : Post) (h : Heap), TT h → (∀ h', Ext h h' → Q [boo true] h') → I 175 [str annS] Q h) (hT : TT h) {e : Evt} {s : Sl} (g : GoodE e) (hid : isKey e.id = true) (hat : 0 ≤ e.at_ ∧ e.at_ ≤ 4321439) (hs : At h 4 s (rows fldC e.fields)) (hQ : ∀ h', Ext h h' → Q [int 0] h') :
    I 141 [.agg (evtC e s)] Q h := by
  obtain ⟨f1, f2, f3⟩ := fields_ok g
  refine hI.go _ _ (den141 I e.id e.name e.at_ e.whoK e.whoT s Q) ?_
  refine joinK_intro (fun b h' => b = false ∧ h' = h) ?_ fun j hj => spec69 hI ⟨_, rfl, ?_⟩
  case refine_2 =>
    rw [hid]
    refine ifT_intro (fun e => by cases e) fun _ => spec69 hI ⟨_, rfl, ?_⟩
    rw [condE_key _ g.name]
    exact hj _ _ ⟨rfl, rfl⟩
  rintro b h1 ⟨rfl, rfl⟩
  refine ifT_intro (fun e => by cases e) fun _ => spec155 hI ⟨_, rfl, ?_⟩
  rw [decide_eq_true hat]
  refine ifT_intro (fun e => by cases e) fun _ => ?_
  rw [g.whoK, g.whoT]
  refine hI.go _ _ (den156 I 1 annS _) ?_
  refine joinK_intro (fun b h' => b = true ∧ Ext h1 h') ?_ fun j hj => ifT_dec (fun _ => hM _ _ hT fun h2 x2 => ⟨true, rfl, hj _ _ ⟨rfl, x2⟩⟩) fun e => absurd rfl e
  rintro b h2 ⟨rfl, x2⟩
  refine ifT_intro (fun e => by cases e) fun _ => ifT_dec (fun e => absurd e (by decide)) fun _ => ⟨_, rfl, ifT_intro (fun e => absurd rfl (nd e)) fun _ => ?_⟩
  exact spec118 hI hL (hL.ext x2 hT) (x2.at_ hs) f1 f2 f3 ⟨_, rfl, hQ h2 x2⟩
end
end Go.Proofs.YtadakbmoanbcgaaGreatDoorVc
-- CkChk7
namespace Go.Proofs.YtadakbmoanbcgaaGreatDoorVc
open Go.Proofs.Tryz (prog)
theorem evtId_ok : ∀ k < 20, isKey (evtId k) = true := by decide +kernel
theorem evtId_up : ∀ k < 19, cmpS (evtId k) (evtId (k + 1)) < 0 := by decide +kernel
theorem evtId_ne : ∀ k < 20, ((List.range k).any fun j => decide (evtId j = evtId k)) = false := by decide +kernel
section
variable {Pm : Prim} {I : Calls} {Q : Post} {h : Heap} {TT : Heap → Prop}
theorem spec119 (hI : Closed' prog Pm I) (hL : LibI I TT) (hM : ∀ (Q : Post) (h : Heap), TT h → (∀ h', Ext h h' → Q [boo true] h') → I 175 [str annS] Q h) (hT : TT h) {s : Sl} {evs : List (Evt × Sl)} (hs : At h 6 s (rows evP evs)) (hf : ∀ p ∈ evs, At h 4 p.2 (rows fldC p.1.fields)) (hl : evs.length ≤ 20)
    (hid : ∀ k (p : Evt × Sl), evs[k]? = some p → p.1.id = evtId k) (hg : ∀ p ∈ evs, GoodE p.1) (hp : evs.Pairwise fun a b => a.1.at_ ≤ b.1.at_) (ha : ∀ p ∈ evs, 0 ≤ p.1.at_ ∧ p.1.at_ ≤ 4321439) (hQ : ∀ h', Ext h h' → Q [int 0] h') : I 119 [.one (.slice 6 s)] Q h := by
  have hlen : s.len = evs.length := hs.rowsLen evP_length (by decide)
  refine hI.go _ _ (den119 I s Q) ?_
  refine ifT_dec (fun e => by omega) fun _ => newK_intro fun i2 h2 hn2 he2 => ?_
  refine loopK_intro (fun (n : Int) h' m => ∃ i : Nat, i ≤ evs.length ∧ n = i ∧ evs.length - i = m ∧ Ext h h' ∧ h' i2 = some (.map (seen ((List.range i).map evtId)))) evs.length ⟨0, by omega, rfl, rfl, he2 ▸ Ext.new hn2, by rw [he2, Heap.set_same]; rfl⟩ ?_
  rintro n h' m ⟨i, hi, rfl, rfl, x', hm⟩
  refine ifT_dec (fun hlt => ⟨⟨by omega, hlt⟩, ?_⟩) fun _ => hQ h' x'
  have hil : i < evs.length := by omega
  have hx := List.getElem?_eq_getElem hil
  generalize evs[i] = p at hx
  have hpm := List.mem_of_getElem? hx
  have hpid := hid i p hx
  refine (x'.at_ hs).row evP_length (by decide) hx fun bb oo hr => ⟨_, _, _, _, _, _, hr, ?_⟩
  refine spec141 hI hL hM (hL.ext x' hT) (e := p.1) (s := p.2) (hg p hpm) (by rw [hpid]; exact evtId_ok i (by omega)) (ha p hpm) (x'.at_ (hf p hpm)) fun g0 y0 => ⟨_, rfl, ifT_intro (fun e => absurd rfl (nd e)) fun _ => ?_⟩
  replace x' := x'.trans y0
  replace hm := y0 _ _ hm
  clear hr
  have go : ∀ h3, Ext g0 h3 → ∃ b32 : Bool, ∃ b33 : Bool, (∃ cs34 : List (V × V), (mapOf h3 (some i2) = some cs34) ∧ mapGet (V.one (Cell.str p.1.id)) (V.one (Cell.bool false)) cs34 = some (V.one (Cell.bool b32), b33)) ∧
      (ifT b32 (Q [int 6]) (fun h35 => (mapK [] (some i2) (V.one (Cell.str p.1.id)) (V.one (Cell.bool true)) ((fun (n : Int) h' => ∃ m', m' < evs.length - i ∧ ∃ i : Nat, i ≤ evs.length ∧ n = i ∧ evs.length - i = m' ∧ Ext h h' ∧ h' i2 = some (.map (seen ((List.range i).map evtId)))) (IntKind.i64.wrap ((i : Int) + 1)))) h35)) h3 := fun h3 x3 => by
    have hm3 := x3 _ _ hm
    have hno : (((List.range i).map evtId).any fun y => decide (y = p.1.id)) = false := by
      rw [List.any_map, hpid]; exact evtId_ne i (by omega)
    refine ⟨_, _, ⟨_, mapOf_some hm3, seen_get p.1.id _⟩, ?_⟩
    rw [hno]
    refine ifT_intro (fun e => by cases e) fun _ => ?_
    refine mapK_intro hm3 (seen_set p.1.id _ hno) ⟨evs.length - (i + 1), by omega, i + 1, by omega, by rw [w64] <;> omega, rfl, fun j y hj => ?_, ?_⟩
    · rw [Heap.set_ne _ _ (fun e => by rw [e, hn2] at hj; cases hj)]; exact (x'.trans x3) _ _ hj
    · rw [Heap.set_same, List.range_succ, List.map_append, hpid]; simp [seen]
  refine ifT_dec (fun hpos => ?_) fun _ => go g0 (Ext.refl _)
  have ew : IntKind.i64.wrap ((i : Int) - 1) = ((i - 1 : Nat) : Int) := by rw [w64] <;> omega
  rw [ew]
  have hy := List.getElem?_eq_getElem (show i - 1 < evs.length by omega)
  generalize evs[i - 1] = q at hy
  have hqid := hid (i - 1) q hy
  refine ⟨⟨by omega, by omega⟩, (x'.at_ hs).row evP_length (by decide) hy fun bb oo hr => ⟨_, _, _, _, _, _, hr, ?_⟩⟩
  refine spec142 hI (e := q.1) (f := p.1) (sa := q.2) (sb := p.2) fun h3 x3 => ⟨_, rfl, ifT_dec (fun e => ?_) fun _ => go h3 x3⟩
  have h1 := pair_at hp (show i - 1 < i by omega) hy hx
  have h2 := evtId_up (i - 1) (by omega)
  rw [show i - 1 + 1 = i by omega, ← hqid, ← hpid] at h2
  exfalso
  unfold cmpI at e
  by_cases hc : q.1.at_ < p.1.at_
  · rw [if_pos hc] at e; simp at e
  · rw [if_neg hc, if_neg (by omega)] at e; simp at e; omega
end
end Go.Proofs.YtadakbmoanbcgaaGreatDoorVc
-- CkChk8
namespace Go.Proofs.YtadakbmoanbcgaaGreatDoorVc
open Go.Proofs.Tryz (prog)
section
variable {Pm : Prim} {I : Calls} {Q : Post} {h : Heap} {TT : Heap → Prop}
/-- Events in memory, all right. -/
structure EvOk (h : Heap) (s : Sl) (evs : List (Evt × Sl)) : Prop where
  at_ : At h 6 s (rows evP evs)
  flds : ∀ p ∈ evs, At h 4 p.2 (rows fldC p.1.fields)
  len : evs.length ≤ 20
  ids : ∀ k (p : Evt × Sl), evs[k]? = some p → p.1.id = evtId k
  good : ∀ p ∈ evs, GoodE p.1
  order : evs.Pairwise fun a b => a.1.at_ ≤ b.1.at_
  time : ∀ p ∈ evs, 0 ≤ p.1.at_ ∧ p.1.at_ ≤ 4321439
theorem EvOk.ext {h' : Heap} {s : Sl} {evs : List (Evt × Sl)} (o : EvOk h s evs) (x : Ext h h') : EvOk h' s evs := ⟨x.at_ o.at_, fun p hp => x.at_ (o.flds p hp), o.len, o.ids, o.good, o.order, o.time⟩
/-- A record in memory, right. -/
structure RecOk (h : Heap) (s : Sl) (fs : List Fld) : Prop where
  at_ : At h 4 s (rows fldC fs)
  ok : fs.length ≤ 30 ∧ (∀ f ∈ fs, isKey f.name = true ∧ errV f.val = 0) ∧ fs.Pairwise fun a b => afterN a.name b.name = false
  up : fs.Pairwise fun a b => a.name.toList < b.name.toList
theorem RecOk.ext {h' : Heap} {s : Sl} {fs : List Fld} (o : RecOk h s fs) (x : Ext h h') : RecOk h' s fs := ⟨x.at_ o.at_, o.ok, o.up⟩
theorem condF_up : condF.Pairwise fun a b => a.toList < b.toList := by decide +kernel
theorem RecOk.drawn {s : Sl} {fs : List Fld} (h1 : At h 4 s (rows fldC fs)) (h2 : (fs.map (·.name)).Sublist condF) (h3 : ∀ f ∈ fs, errV f.val = 0) : RecOk h s fs := by
  refine ⟨h1, record_ok h2 h3, ?_⟩
  have := condF_up.sublist h2
  rw [List.pairwise_map] at this
  exact this
theorem spec92 (hI : Closed' prog Pm I) (hL : LibI I TT) (hM : ∀ (Q : Post) (h : Heap), TT h → (∀ h', Ext h h' → Q [boo true] h') → I 175 [str annS] Q h) (hT : TT h) {c : CT} {r : List Cell} {sr se : Sl} {fs : List Fld} {evs : List (Evt × Sl)} (hc : CondAt h c r) (hsz : c.size < 1000000) (hn : c.narrow) (he : errCond c = 0)
    (hr : RecOk h sr fs) (hv : EvOk h se evs) (hQ : ∀ h', Ext h h' → Q [int 0] h') : I 92 [.agg r, .one (.slice 4 sr), .one (.slice 6 se)] Q h := by
  obtain ⟨sv, sw, sa, rfl, _⟩ := hc.parts
  refine hI.go _ _ (den92 I c.kind c.name c.field c.sign sv sw c.within c.num sa sr se Q) ?_
  refine spec8 hI hL hT hc hsz hn fun h1 x1 => ⟨_, rfl, ?_⟩
  rw [he]
  refine ifT_intro (fun e => absurd rfl (nd e)) fun _ => ?_
  obtain ⟨f1, f2, f3⟩ := hr.ok
  refine spec118 hI hL (hL.ext x1 hT) (x1.at_ hr.at_) f1 f2 f3 ⟨_, rfl, ifT_intro (fun e => absurd rfl (nd e)) fun _ => ?_⟩
  have v := hv.ext x1
  exact spec119 hI hL hM (hL.ext x1 hT) v.at_ v.flds v.len v.ids v.good v.order v.time fun h2 x2 => ⟨_, rfl, hQ h2 (x1.trans x2)⟩
theorem spec65 (hI : Closed' prog Pm I) (hL : LibI I TT) (hM : ∀ (Q : Post) (h : Heap), TT h → (∀ h', Ext h h' → Q [boo true] h') → I 175 [str annS] Q h) (hT : TT h) {c : CT} {r : List Cell} {sr se : Sl} {fs : List Fld} {evs : List (Evt × Sl)} {n : Int} (hc : CondAt h c r) (hsz : c.size < 1000000) (hn : c.narrow) (he : errCond c = 0)
    (hr : RecOk h sr fs) (hv : EvOk h se evs) (ha : 0 ≤ n ∧ n ≤ 4321439) (hQ : ∀ h', Ext h h' → Q [int 0] h') : I 65 [.agg r, .one (.slice 4 sr), .one (.slice 6 se), int n] Q h := by
  obtain ⟨sv, sw, sa, rfl, _⟩ := hc.parts
  refine hI.go _ _ (den65 I c.kind c.name c.field c.sign sv sw c.within c.num sa sr se n Q) ?_
  refine spec92 hI hL hM hT (r := condC c sv sw sa) hc hsz hn he hr hv fun h1 x1 => ⟨_, rfl, ifT_intro (fun e => absurd rfl (nd e)) fun _ => ?_⟩
  refine spec48 hI ⟨_, rfl, ?_⟩
  rw [decide_eq_true ha]
  exact ifT_intro (fun e => by cases e) fun _ => hQ h1 x1
end
end Go.Proofs.YtadakbmoanbcgaaGreatDoorVc
-- CkMean1
namespace Go.Proofs.YtadakbmoanbcgaaGreatDoorVc
open Go.Proofs.Tryz (prog)
theorem midq {i j : Nat} (hi : i + j < 4000000) : IntKind.i64.wrap (shr IntKind.u64 (IntKind.u64.wrap (IntKind.i64.wrap ((i : Int) + (j : Int)))) 1) = (((i + j) / 2 : Nat) : Int) := by
  have e1 : IntKind.i64.wrap ((i : Int) + (j : Int)) = ((i + j : Nat) : Int) := by rw [w64] <;> omega
  have e0 : IntKind.u64.wrap ((i + j : Nat) : Int) = ((i + j : Nat) : Int) := wu64 (by omega) (by omega)
  rw [e1, e0]
  have e2 : shr IntKind.u64 ((i + j : Nat) : Int) 1 = (((i + j) / 2 ^ 1 : Nat) : Int) := shr_nat (i + j) 1 .u64 rfl (by decide)
  rw [e2, w64 (by omega) (by omega), Nat.pow_one]
def fieldOf (fs : List Fld) (n : ByteArray) : Option Val := (fs.find? fun f => decide (f.name = n)).map (·.val)
section
variable {Pm : Prim} {I : Calls} {Q : Post} {h : Heap}
theorem spec124 (hI : Closed' prog Pm I) {f : Fld} {n : ByteArray} (hQ : Q [int (cmpS f.name n)] h) : I 124 [.agg (fldC f), str n] Q h := by
  refine hI.go _ _ (den124 I f.name f.val.kind f.val.text f.val.num n Q) ?_
  exact spec125 hI ⟨_, rfl, hQ⟩
/-- The search of a row in order. -/
theorem spec123 (hI : Closed' prog Pm I) {s : Sl} {fs : List Fld} {n : ByteArray} (hs : At h 4 s (rows fldC fs)) (hl : fs.length < 1000000) (hup : fs.Pairwise fun a b => a.name.toList < b.name.toList)
    (hQ : ∀ i : Nat, i ≤ fs.length → (∀ j f, j < i → fs[j]? = some f → cmpS f.name n < 0) → (∀ j f, i ≤ j → fs[j]? = some f → ¬ cmpS f.name n < 0) → Q [int i, boo (match fs[i]? with | some f => decide (cmpS f.name n = 0) | none => false)] h) :
    I 123 [.one (.slice 4 s), str n, .one (.func (some (124, [])))] Q h := by
  refine hI.go _ _ (den123 I s n (some (124, [])) Q) ?_
  have ls : s.len = fs.length := hs.rowsLen fldC_length (by decide)
  refine loopK_intro (fun (p : Int × Int) h' m => h' = h ∧ ∃ i j : Nat, i ≤ j ∧ j ≤ fs.length ∧ p = ((i : Int), (j : Int)) ∧ j - i = m ∧ (∀ a f, a < i → fs[a]? = some f → cmpS f.name n < 0) ∧ ∀ a f, j ≤ a → fs[a]? = some f → ¬ cmpS f.name n < 0) fs.length
    ⟨rfl, 0, fs.length, by omega, by omega, by rw [ls]; rfl, by omega, (fun a c h => by omega), fun a c h h2 => by
      have := (List.getElem?_eq_some_iff.1 h2).1; omega⟩ ?_
  rintro p h' m ⟨rfl, i, j, hij, hj, rfl, rfl, hA, hB⟩
  dsimp only [uncur]
  refine ifT_dec (fun hlt => ?_) fun hge => ?_
  · rw [midq (by omega)]
    have hm : (i + j) / 2 < j ∧ i ≤ (i + j) / 2 := by omega
    generalize (i + j) / 2 = q at hm
    have hx := List.getElem?_eq_getElem (show q < fs.length by omega)
    generalize fs[q] = x at hx
    refine ⟨⟨by omega, by omega⟩, hs.row fldC_length (by decide) hx fun bb o hr => ⟨x.name, x.val.kind, x.val.text, x.val.num, hr, ?_⟩⟩
    refine spec124 hI (f := x) ⟨_, rfl, ifT_dec (fun h2 => ?_) fun h2 => ?_⟩
    · refine ⟨j - (q + 1), by omega, rfl, q + 1, j, by omega, hj, ?_, rfl, fun a c ha hc => ?_, hB⟩
      · rw [w64 (by omega) (by omega)]; rfl
      · by_cases e : a = q
        · subst e; rw [hx] at hc; cases hc; exact h2
        · exact cmpS_neg.2 (List.lt_trans (pair_at (R := fun a b : Fld => a.name.toList < b.name.toList) hup (show a < q by omega) hc hx) (cmpS_neg.1 h2))
    · refine ⟨q - i, by omega, rfl, i, q, by omega, by omega, rfl, rfl, hA, fun a c ha hc h3 => h2 ?_⟩
      by_cases e : a = q
      · subst e; rw [hx] at hc; cases hc; exact h3
      · exact cmpS_neg.2 (List.lt_trans (pair_at (R := fun a b : Fld => a.name.toList < b.name.toList) hup (show q < a by omega) hx hc) (cmpS_neg.1 h3))
  · obtain rfl : i = j := by omega
    have fin := hQ i hj hA hB
    refine ifT_dec (fun h2 => ⟨⟨by omega, h2⟩, ?_⟩) fun h2 => ?_
    · have hx := List.getElem?_eq_getElem (show i < fs.length by omega)
      generalize fs[i] = x at hx
      refine hs.row fldC_length (by decide) hx fun bb o hr => ⟨x.name, x.val.kind, x.val.text, x.val.num, hr, spec124 hI (f := x) ⟨_, rfl, ?_⟩⟩
      rw [hx] at fin
      exact fin
    · have hx : fs[i]? = none := List.getElem?_eq_none (by omega)
      rw [hx] at fin
      exact fin
end
end Go.Proofs.YtadakbmoanbcgaaGreatDoorVc
