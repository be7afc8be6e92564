/- Maps from points to leaves: which keys there are, and a function. -/
import Derived.Test.YtblhbfniomlfkaaSite
import Derived.Test.YtblhbfniomlfkaaMap
import Derived.Test.YtblhbfniomlfkaaRegion3
import Derived.DeepKeys5
import Derived.Maps.RangeWalk
namespace Go.Proofs.Ytblhbfniomlfkaa
open Go.RowKit Go.Maps

theorem kp_laid : laidOutB Try.prog = true := by kernel_rfl
theorem kp_row : (49 : TypeId) < Try.prog.types.size := of_decide_eq_true (by kernel_rfl)
theorem size_ex {s k : Nat} (h : k < s) : ∃ m, s + 1 = m + 2 := ⟨s - 1, by omega⟩
theorem kp_size : ∃ m, Try.prog.types.size + 1 = m + 2 := size_ex kp_row
theorem kp_cells : Try.prog.cellsOf 49 = 2 := by kernel_rfl
theorem kp_cells2 : Try.prog.cellsOf 2 = 1 := by kernel_rfl
theorem kp_deep : Try.prog.keyTypeAt (Try.prog.types.size + 1) 49 = true := by kernel_rfl
theorem kp_deep2 : Try.prog.keyTypeAt 2 49 = true := by kernel_rfl
theorem kp_wide : (match Try.prog.underlying 49 with | some (.array _ _) | some (.struct _) => true | _ => false) = true := by kernel_rfl
set_option maxRecDepth 100000 in
theorem keyed_pt : Keyed Try.prog 49 := Keyed.of_law (deep_law_laid kp_laid (m := 2) (by omega) kp_row kp_deep2 kp_wide)
theorem keyLits_int (m : Nat) (cs : List Value) (L : List Lit) (h : Try.prog.keyLits (m + 1) 2 cs = some L) : ∃ a, cs = [.int .i64 a] ∧ (Lit.int .i64 a).wf = true ∧ L = [.int .i64 a] := by
  unfold Program.keyLits at h
  simp only [Try.underlying2] at h
  split at h <;> simp_all
theorem keyLits_int_mk (m : Nat) (a : Int) (h : (Lit.int .i64 a).wf = true) : Try.prog.keyLits (m + 1) 2 [.int .i64 a] = some [.int .i64 a] := by
  unfold Program.keyLits
  simp [Try.underlying2, h]
theorem keyLits_pt (m : Nat) (x y : Value) (L : List Lit) (h : Try.prog.keyLits (m + 2) 49 [x, y] = some L) : ∃ a b, x = .int .i64 a ∧ y = .int .i64 b ∧ (Lit.int .i64 a).wf = true ∧ (Lit.int .i64 b).wf = true ∧ L = [.int .i64 a, .int .i64 b] := by
  unfold Program.keyLits at h
  simp only [Try.underlying49] at h
  split at h
  · simp only [List.mapM_cons, List.mapM_nil, kp_cells2, List.drop_zero, List.drop_succ_cons, List.take_succ_cons, List.take_zero] at h
    cases h1 : Try.prog.keyLits (m + 1) 2 [x] with
    | none => rw [h1] at h; simp at h
    | some L1 =>
      cases h2 : Try.prog.keyLits (m + 1) 2 [y] with
      | none => rw [h1, h2] at h; simp at h
      | some L2 =>
        rw [h1, h2] at h
        obtain ⟨a, ea, wa, rfl⟩ := keyLits_int m _ _ h1
        obtain ⟨b, eb, wb, rfl⟩ := keyLits_int m _ _ h2
        simp at ea eb h
        exact ⟨a, b, ea, eb, wa, wb, h.symm⟩
  · cases h
theorem keyLits_pt_mk (m : Nat) (a b : Int) (ha : (Lit.int .i64 a).wf = true) (hb : (Lit.int .i64 b).wf = true) : Try.prog.keyLits (m + 2) 49 [.int .i64 a, .int .i64 b] = some [.int .i64 a, .int .i64 b] := by
  unfold Program.keyLits
  simp only [Try.underlying49]
  rw [if_pos ⟨by rw [kp_cells]; rfl, by kernel_rfl⟩]
  simp only [List.mapM_cons, List.mapM_nil, kp_cells2, List.drop_zero, List.drop_succ_cons, List.take_succ_cons, List.take_zero, keyLits_int_mk m _ ha, keyLits_int_mk m _ hb]
  rfl
theorem formed_pt {xs : Array Value} (h : xs.size = 2) : (Value.agg xs).formed Try.prog 49 = true := by
  unfold Value.formed
  simp only [Try.underlying49, kp_cells, h, beq_self_eq_true]
def klp (a b : Int) : Lit := .string (keyBytes [.int .i64 a, .int .i64 b])
theorem key_pt {a b : Int} (ha : (Lit.int .i64 a).wf = true) (hb : (Lit.int .i64 b).wf = true) : keyOf Try.prog 49 (.agg #[.int .i64 a, .int .i64 b]) = some (klp a b) := by
  obtain ⟨m, hm⟩ := kp_size
  have hf : (Value.agg #[.int .i64 a, .int .i64 b]).formed Try.prog 49 = true := formed_pt rfl
  have hk : Try.prog.keyType 49 = true := kp_deep
  unfold keyOf
  simp only [Try.underlying49]
  rw [if_pos (by rw [hk, hf]; rfl), hm]
  show (Try.prog.keyLits (m + 2) 49 [.int .i64 a, .int .i64 b]).map _ = _
  rw [keyLits_pt_mk m a b ha hb]
  rfl
set_option maxRecDepth 100000 in
theorem key_pt_inv {v : Value} {l : Lit} (h : keyOf Try.prog 49 v = some l) : ∃ a b, v = .agg #[.int .i64 a, .int .i64 b] ∧ (Lit.int .i64 a).wf = true ∧ (Lit.int .i64 b).wf = true ∧ l = klp a b := by
  obtain ⟨m, hm⟩ := kp_size
  obtain ⟨xs, L, rfl, hL, rfl⟩ := keyOf_top kp_wide h
  rw [hm] at hL
  have hlen : xs.toList.length = 2 := by
    unfold Program.keyLits at hL
    simp only [Try.underlying49] at hL
    split at hL
    · rename_i h2; rw [h2.1, kp_cells]
    · cases hL
  match hx : xs.toList, hlen with
  | [x, y], _ =>
    rw [hx] at hL
    obtain ⟨a, b, rfl, rfl, wa, wb, rfl⟩ := keyLits_pt m x y L hL
    refine ⟨a, b, ?_, wa, wb, rfl⟩
    congr 1
    apply Array.toList_inj.1
    rw [hx]

abbrev Pt := Int × Int
def ptV (p : Pt) : Value := .agg #[.int .i64 p.1, .int .i64 p.2]
def Pt64 (p : Pt) : Prop := I64 p.1 ∧ I64 p.2
theorem wf_i64 {a : Int} (h : I64 a) : (Lit.int .i64 a).wf = true := by
  unfold I64 at h
  simp [Lit.wf, IntKind.min, IntKind.max, IntKind.signed, IntKind.bits]
  omega
theorem i64_wf {a : Int} (h : (Lit.int .i64 a).wf = true) : I64 a := by
  simp [Lit.wf, IntKind.min, IntKind.max, IntKind.signed, IntKind.bits] at h
  unfold I64
  omega
theorem key_ptV {p : Pt} (h : Pt64 p) : keyOf Try.prog 49 (ptV p) = some (klp p.1 p.2) := key_pt (wf_i64 h.1) (wf_i64 h.2)
theorem klp_ne {p q : Pt} (hp : Pt64 p) (hq : Pt64 q) (h : p ≠ q) : klp p.1 p.2 ≠ klp q.1 q.2 := fun e => by
  have h1 := key_ptV hp
  have h2 := key_ptV hq
  rw [← e] at h2
  have := keyed_pt.inj h1 h2
  simp only [ptV, Value.agg.injEq, Array.mk.injEq, List.cons.injEq, Value.int.injEq, true_and, and_true] at this
  exact h (Prod.ext this.1 this.2)
theorem klp_key {p : Pt} (hp : Pt64 p) : WideAt.IsKeyLit (klp p.1 p.2) := keyed_pt.key (key_ptV hp)

theorem klp_unlike {p q : Pt} (hp : Pt64 p) (hq : Pt64 q) (h : p ≠ q) : (klp p.1 p.2).sameKey (klp q.1 q.2) = false := by
  have hne := klp_ne hp hq h
  generalize klp p.1 p.2 = a at hne ⊢
  generalize klp q.1 q.2 = b at hne ⊢
  cases hs : a.sameKey b
  · rfl
  · exact absurd (WideAt.sameKey_eq hs) hne

/-- Block b is a map of at most n entries; its keys are ks; f says what it holds. -/
structure PMapIs (w : World) (b n : Nat) (ks : List Pt) (f : Pt → Nat) (D : DataW Unit) : Prop where
  own : w.ownsMap Try.prog 49 (plainElem Try.prog 68) b n D
  look : ∀ p : Pt, Pt64 p → D.atKey (klp p.1 p.2) (.lit (.int .u32 0)) = .lit (.int .u32 (if p ∈ ks then f p else 0 : Nat))
  has : ∀ p : Pt, Pt64 p → Maps.has D (klp p.1 p.2) = decide (p ∈ ks)
  size : Maps.size D = ks.length
  ok : ∀ p, p ∈ ks → Pt64 p ∧ f p < 4294967296
  nodup : ks.Nodup
def PMapAt (w : World) (b n : Nat) (ks : List Pt) (f : Pt → Nat) : Prop := ∃ D, PMapIs w b n ks f D

theorem PMapAt.made (w : World) : PMapAt (w.alloc (.map #[] 0)) w.heap.size 0 [] (fun _ => 0) :=
  ⟨.map [], World.ownsMap_made w _ _ _, fun _ _ => by simp; rfl, fun _ _ => rfl, rfl, fun _ h => by simp at h, List.nodup_nil⟩

section
variable {w w' : World} {b n : Nat} {ks : List Pt} {f : Pt → Nat}
theorem PMapAt.lt (h : PMapAt w b n ks f) : b < w.heap.size := by obtain ⟨D, h⟩ := h; exact h.own.lt
theorem PMapAt.keep {S : Nat → Prop} (h : PMapAt w b n ks f) (ho : Only S w w') (hb : ¬ S b) : PMapAt w' b n ks f := by
  obtain ⟨D, h⟩ := h
  have hlt := h.own.lt
  obtain ⟨es, clock, hh, F, hs, hD⟩ := h.own
  exact ⟨D, ⟨es, clock, (ho.block b hlt hb).trans hh, F, hs, hD⟩, h.look, h.has, h.size, h.ok, h.nodup⟩
theorem PMapAt.not_cells (h : PMapAt w b n ks f) {g : Nat} {t : TypeId} {cs : Array Value} (hB : Blk w g t cs) : b ≠ g := by
  rintro rfl
  obtain ⟨D, h⟩ := h
  obtain ⟨es, clock, hh, _⟩ := h.own
  unfold Blk at hB
  rw [hh] at hB
  cases hB
theorem PMapAt.not_own (h : PMapAt w b n ks f) {base : Nat} {t : TypeId} {size m : Nat} {v : Value} {xs : List Value} (ho : w.ownsRow base t size v m xs) : v.ownBlock ≠ some b := by
  rcases ho.2 with ⟨rfl, _⟩ | ⟨g, cap, cur, rfl, _, hh, _⟩
  · simp [Value.ownBlock]
  · intro he
    have : g = b := by simpa [Value.ownBlock] using he
    subst this
    exact h.not_cells (t := t) hh rfl
theorem PMapAt.not_foot (h : PMapAt w b n ks f) {A : Ars} (hA : A.At w) : ¬ A.foot b := by
  rintro (h1 | h1 | h1 | h1)
  · exact h.not_cells hA.blk h1
  · exact h.not_own hA.own h1
  · exact h.not_own hA.ows h1
  · exact h.not_own hA.owe h1
end

/-- What the map holds at a key. -/
def mval (ks : List Pt) (f : Pt → Nat) (p : Pt) : Nat := if p ∈ ks then f p else 0
def mput (ks : List Pt) (p : Pt) : List Pt := if p ∈ ks then ks else p :: ks
def fput (f : Pt → Nat) (p : Pt) (v : Nat) : Pt → Nat := fun q => if q = p then v else f q

section
variable {ops : Array Oper} {rest : List Oper} {o : Oper} {a : Act} {Q : Exit → Act → World → Prop}
theorem zero_leaf (w : World) : (zeroValue 68).run Try.prog w = .ok (.int .u32 0) w := by kernel_rfl
theorem wp_plook (w : World) (hg : o.guard = none) (m x : Operand) (hop : o.op = Op.lookup 66 m x false) (b n : Nat) (ks : List Pt) (f : Pt → Nat) (hm : a.eval m = .map (some b)) (hM : PMapAt w b n ks f) (p : Pt) (hp : Pt64 p) (hx : a.eval x = ptV p)
    (hK : wpList Try.prog ops Q rest (a.put o.dst (.int .u32 (mval ks f p))) w) : wpList Try.prog ops Q (o :: rest) a w := by
  obtain ⟨D, hM⟩ := hM
  refine wpList_lookup_own_int w hg m x 66 hop 49 68 .u32 keyed_pt Try.underlying66 Try.underlying68 (zero_leaf w) b n D hm hM.own _ _ hx (key_ptV hp) ?_
  intro c hat _
  rw [hM.look p hp] at hat
  injection hat with hat
  injection hat with _ hat
  rw [← hat]
  exact hK
theorem wf_leaf {k : Nat} (h : k < 4294967296) : (Lit.int .u32 (k : Int)).wf = true := wf_u32 h
theorem wp_pput (w : World) (hg : o.guard = none) (m x v : Operand) (hop : o.op = Op.mapUpdate 66 m x v) (b n : Nat) (ks : List Pt) (f : Pt → Nat) (hm : a.eval m = .map (some b)) (hM : PMapAt w b n ks f) (hl : n < 4294967296) (p : Pt) (hp : Pt64 p) (hx : a.eval x = ptV p)
    (y : Nat) (hy : y < 4294967296) (hv : a.eval v = .int .u32 y) (hK : ∀ w', PMapAt w' b (n + 1) (mput ks p) (fput f p y) → Only (fun j => j = b) w w' → wpList Try.prog ops Q rest (a.put o.dst undef) w') : wpList Try.prog ops Q (o :: rest) a w := by
  obtain ⟨D, hM⟩ := hM
  refine wpList_mapUpdate_own w hg m x v 66 hop 49 68 keyed_pt Try.underlying66 (plainElem Try.prog 68) b n D hm hM.own (by unfold maxLen; omega) _ _ _ hx hv (key_ptV hp) _ [] (plainElem_int Try.underlying68 (wf_leaf hy)) ?_
  intro w' hown hgr
  have hT := hM.own.tidy keyed_pt
  have hI := hM.own.isMap
  have hmem : ∀ q, q ∈ mput ks p ↔ q = p ∨ q ∈ ks := fun q => by
    unfold mput
    split
    · rename_i h
      exact ⟨.inr, fun hq => by rcases hq with rfl | hq; exact h; exact hq⟩
    · simp
  refine hK w' ⟨_, hown, ?_, ?_, ?_, ?_, ?_⟩ ((Only.refl _ w).grown hgr (fun k e _ => by simpa using e.symm))
  · intro q hq
    by_cases e : q = p
    · subst e
      rw [atKey_put_same (k := klp q.1 q.2) hI (klp_key hq), if_pos ((hmem q).2 (.inl rfl))]
      simp [fput]
    · rw [atKey_put_other (fun h => klp_ne hq hp e h), hM.look q hq]
      simp only [hmem, e, false_or, fput, if_false]
  · intro q hq
    by_cases e : q = p
    · subst e
      rw [has_put_same (k := klp q.1 q.2) hI (klp_key hq)]
      simp [hmem]
    · rw [has_put_other (fun h => klp_ne hq hp e h), hM.has q hq]
      simp only [hmem, e, false_or]
  · rw [size_put hT, hM.has p hp, hM.size]
    unfold mput
    by_cases e : p ∈ ks
    · simp [e]
    · simp [e]
  · intro q hq
    unfold fput
    by_cases e : q = p
    · subst e; simp only [if_true]; exact ⟨hp, hy⟩
    · simp only [e, if_false]
      exact hM.ok q (((hmem q).1 hq).resolve_left e)
  · unfold mput
    split
    · exact hM.nodup
    · rename_i h
      exact List.nodup_cons.2 ⟨h, hM.nodup⟩

/-- A range over the map under way: 'done' has come, 'left' is to come. -/
structure PRng (w : World) (b r n : Nat) (ks : List Pt) (f : Pt → Nat) (done : List Pt) (cnt : Nat) : Prop where
  ex : ∃ D left, PMapIs w b n ks f D ∧ w.ranges Try.prog 49 (plainElem Try.prog 68) b r n D left cnt ∧ (∀ p, Pt64 p → (left (klp p.1 p.2) = true ↔ p ∈ ks ∧ p ∉ done)) ∧ (∀ l, left l = true → ∃ p, Pt64 p ∧ l = klp p.1 p.2)
  sub : ∀ p, p ∈ done → p ∈ ks
  nodup : done.Nodup

theorem PRng.map {w : World} {b r n : Nat} {ks : List Pt} {f : Pt → Nat} {done : List Pt} {cnt : Nat} (h : PRng w b r n ks f done cnt) : PMapAt w b n ks f := by
  obtain ⟨D, left, hM, _⟩ := h.ex
  exact ⟨D, hM⟩
theorem PRng.left_eq {w : World} {b r n : Nat} {ks : List Pt} {f : Pt → Nat} {done : List Pt} {cnt : Nat} (h : PRng w b r n ks f done cnt) : w.rangeLeft b r = cnt := by
  obtain ⟨D, left, _, hr, _⟩ := h.ex
  exact hr.left_eq
theorem PRng.lt {w : World} {b r n : Nat} {ks : List Pt} {f : Pt → Nat} {done : List Pt} {cnt : Nat} (h : PRng w b r n ks f done cnt) : r < w.heap.size := by
  obtain ⟨D, left, _, hr, _⟩ := h.ex
  exact hr.lt
theorem PRng.keep {w w' : World} {b r n : Nat} {ks : List Pt} {f : Pt → Nat} {done : List Pt} {cnt : Nat} {S : Nat → Prop} (h : PRng w b r n ks f done cnt) (ho : Only S w w') (hb : ¬ S b) (hr : ¬ S r) : PRng w' b r n ks f done cnt := by
  obtain ⟨D, left, hM, hR, hl, hp⟩ := h.ex
  have hlb := hM.own.lt
  have hlr := hR.lt
  refine ⟨⟨D, left, ?_, ?_, hl, hp⟩, h.sub, h.nodup⟩
  · obtain ⟨es, clock, hh, F, hs, hD⟩ := hM.own
    exact ⟨⟨es, clock, (ho.block b hlb hb).trans hh, F, hs, hD⟩, hM.look, hM.has, hM.size, hM.ok, hM.nodup⟩
  · obtain ⟨es, clock, since, seen, c0, h1, h2, h3, h4, h5, h6⟩ := hR
    exact ⟨es, clock, since, seen, c0, (ho.block b hlb hb).trans h1, h2, h3, h4, (ho.block r hlr hr).trans h5, h6⟩

/-- What of the iterator's block: it holds no cells. -/
theorem PRng.not_cells {w : World} {b r n : Nat} {ks : List Pt} {f : Pt → Nat} {done : List Pt} {cnt : Nat} (h : PRng w b r n ks f done cnt) {g : Nat} {t : TypeId} {cs : Array Value} (hB : Blk w g t cs) : r ≠ g := by
  rintro rfl
  obtain ⟨D, left, _, hR, _⟩ := h.ex
  obtain ⟨_, _, _, _, _, _, _, _, _, h5, _⟩ := hR
  unfold Blk at hB
  rw [h5] at hB
  cases hB
theorem PRng.not_own {w : World} {b r n : Nat} {ks : List Pt} {f : Pt → Nat} {done : List Pt} {cnt : Nat} (h : PRng w b r n ks f done cnt) {base : Nat} {t : TypeId} {size m : Nat} {v : Value} {xs : List Value} (ho : w.ownsRow base t size v m xs) : v.ownBlock ≠ some r := by
  rcases ho.2 with ⟨rfl, _⟩ | ⟨g, cap, cur, rfl, _, hh, _⟩
  · simp [Value.ownBlock]
  · intro he
    have : g = r := by simpa [Value.ownBlock] using he
    subst this
    exact h.not_cells (t := t) hh rfl

theorem wp_prange (w : World) (hg : o.guard = none) (m : Operand) (hop : o.op = Op.range 66 m) (b n : Nat) (ks : List Pt) (f : Pt → Nat) (hm : a.eval m = .map (some b)) (hM : PMapAt w b n ks f)
    (hK : ∀ w', PRng w' b w.heap.size n ks f [] ks.length → Only (fun _ => False) w w' → w'.heap.size = w.heap.size + 1 → wpList Try.prog ops Q rest (a.put o.dst (.pointer (some ⟨w.heap.size, 0, none⟩))) w') : wpList Try.prog ops Q (o :: rest) a w := by
  obtain ⟨D, hM⟩ := hM
  refine wpList_range_own w hg m 66 hop 49 68 keyed_pt Try.underlying66 (plainElem Try.prog 68) b n D hm hM.own ?_
  intro w' hr hgr hsz
  have ho : Only (fun _ => False) w w' := (Only.refl _ w).grown hgr (fun k e _ => by cases e)
  refine hK w' ⟨⟨D, Maps.has D, ?_, ?_, ?_, ?_⟩, fun p h => by simp at h, List.nodup_nil⟩ ho hsz
  · obtain ⟨es, clock, hh, F, hs, hD⟩ := hM.own
    exact ⟨⟨es, clock, (ho.block b hM.own.lt (fun h => h)).trans hh, F, hs, hD⟩, hM.look, hM.has, hM.size, hM.ok, hM.nodup⟩
  · rw [hM.size] at hr; exact hr
  · intro p hp
    rw [hM.has p hp]
    simp
  · intro l hl
    obtain ⟨es, clock, since, seen, c0, hb, F, hs, hD, hi, h6, h7, h8, h9, _⟩ := hr
    obtain ⟨x, hx, rfl⟩ := h9 l hl
    obtain ⟨kl, hk⟩ : ∃ kl, keyOf Try.prog 49 x.key = some kl ∧ (Go.WideElems.rg Try.prog 49 (plainElem Try.prog 68) x).1 = kl := by
      obtain ⟨y, hy⟩ := F.reads x hx
      exact ⟨y.1, Go.WideElems.rd_key hy, by rw [Go.WideElems.rg_of hy]⟩
    obtain ⟨a', b', _, wa, wb, rfl⟩ := key_pt_inv hk.1
    exact ⟨(a', b'), ⟨i64_wf wa, i64_wf wb⟩, hk.2⟩

theorem wp_pnext (w : World) (hg : o.guard = none) (it : Operand) (hop : o.op = Op.next it false) (b r n : Nat) (ks : List Pt) (f : Pt → Nat) (done : List Pt) (cnt : Nat) (hit : a.eval it = .pointer (some ⟨r, 0, none⟩)) (h : PRng w b r n ks f done cnt)
    (hDone : cnt = 0 → (∀ p, p ∈ ks → p ∈ done) → wpList Try.prog ops Q rest (a.put o.dst (.tuple #[.bool false])) w)
    (hMore : ∀ (p : Pt) (w' : World) (cnt' : Nat), Pt64 p → p ∈ ks → p ∉ done → PRng w' b r n ks f (done ++ [p]) cnt' → cnt' < cnt → Only (fun k => k = r) w w' → w'.heap.size = w.heap.size → (Instr.entry (.pointer (some ⟨r, 0, none⟩))).run Try.prog w' = .ok (.tuple #[.agg #[.int .i64 p.1, .int .i64 p.2], .int .u32 (f p)]) w' →
      wpList Try.prog ops Q rest (a.put o.dst (.tuple #[.bool true, .agg #[.int .i64 p.1, .int .i64 p.2], .int .u32 (f p)])) w') :
    wpList Try.prog ops Q (o :: rest) a w := by
  obtain ⟨D, left, hM, hR, hl, hp⟩ := h.ex
  have hsub := h.sub
  have hnd := h.nodup
  refine wpList_next_ranges w hg it hop 49 keyed_pt (plainElem Try.prog 68) ptV (Value.int .u32) (fun key kl hkey => by obtain ⟨a', b', rfl, _⟩ := key_pt_inv hkey; exact ⟨(a', b'), rfl⟩)
    (fun v y hv => by obtain ⟨c, rfl, _⟩ := plainElem_int_inv Try.underlying68 hv; exact ⟨c, rfl⟩) b r n D left cnt hit hR ?_ ?_
  · intro h0 hno
    refine hDone h0 fun p hpk => ?_
    have h1 := hl p (hM.ok p hpk).1
    rw [hno] at h1
    exact Classical.byContradiction fun hn => by simpa using h1.2 ⟨hpk, hn⟩
  · intro p c kl y w' cnt' hkey hlk hv hat hrg hlt hgr hsz hen
    obtain ⟨a', b', e1, wa, wb, rfl⟩ := key_pt_inv hkey
    have hpe : p = (a', b') := by
      simp only [ptV, Value.agg.injEq, Array.mk.injEq, List.cons.injEq, Value.int.injEq, true_and, and_true] at e1
      exact Prod.ext e1.1 e1.2
    subst hpe
    have hp64 : Pt64 (a', b') := ⟨i64_wf wa, i64_wf wb⟩
    obtain ⟨c', ec, hy, _⟩ := plainElem_int_inv Try.underlying68 hv
    cases ec
    have hin := (hl (a', b') hp64).1 hlk
    have hc := (hat (.lit (.int .u32 0))).symm.trans (hM.look (a', b') hp64)
    rw [hy, if_pos hin.1] at hc
    simp only [DataW.lit.injEq, Lit.int.injEq, true_and] at hc
    subst hc
    have ho : Only (fun k => k = r) w w' := (Only.refl _ w).grown hgr (fun k e _ => by simpa using e.symm)
    refine hMore (a', b') w' cnt' hp64 hin.1 hin.2 ⟨⟨D, _, ?_, hrg, ?_, ?_⟩, ?_, ?_⟩ hlt ho hsz hen
    · have hne := hR.ne
      obtain ⟨es, clock, hh, F, hs, hD⟩ := hM.own
      exact ⟨⟨es, clock, (ho.block b hM.own.lt (fun h => hne h.symm)).trans hh, F, hs, hD⟩, hM.look, hM.has, hM.size, hM.ok, hM.nodup⟩
    · intro q hq
      simp only [Bool.and_eq_true, Bool.not_eq_true', hl q hq, List.mem_append, List.mem_singleton, not_or]
      by_cases e : q = (a', b')
      · subst e
        rw [WideAt.sameKey_self (klp_key hq)]
        simp
      · have hs := klp_unlike (q := (a', b')) hq hp64 e
        simp only at hs
        rw [hs]
        simp [e]
    · intro l hl'
      simp only [Bool.and_eq_true] at hl'
      exact hp l hl'.1
    · intro q hq
      rcases List.mem_append.1 hq with h1 | h1
      · exact hsub q h1
      · simp only [List.mem_singleton] at h1; subst h1; exact hin.1
    · rw [List.nodup_append]
      exact ⟨hnd, by simp, fun x hx y hy e => by simp only [List.mem_singleton] at hy; subst hy; subst e; exact hin.2 hx⟩
end
end Go.Proofs.Ytblhbfniomlfkaa
