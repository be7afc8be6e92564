/- site.Leaves: of a row of cells the map of its leaves. -/
import Derived.Test.YtblhbfniomlfkaaPMap
namespace Go.Proofs.Ytblhbfniomlfkaa
open Go.RowKit Go.Maps

def Cl.low (c : Cl) : Pt := (low4 c.a, low4 c.b)
def Cl.plc (c : Cl) : Nat := Go.Proofs.Ytblhbfniomlfkaa.plc c.a c.b
/-- A cell with numbers of 64 bits, and a half that is one. -/
def Cl.Fit (c : Cl) : Prop := I64 c.a ∧ I64 c.b ∧ (c.h = 0 ∨ c.h = 1)

theorem snoc_ind {α : Type} {P : List α → Prop} (h0 : P []) (h1 : ∀ l a, P l → P (l ++ [a])) (l : List α) : P l := by
  have h : ∀ m : List α, P m.reverse := fun m => by
    induction m with
    | nil => exact h0
    | cons a m ih => rw [List.reverse_cons]; exact h1 _ _ ih
  have := h l.reverse
  rwa [List.reverse_reverse] at this

/-- What a list says of a leaf. -/
def leafOf (l : List Cl) (p : Pt) : Nat := l.foldl (fun n c => if c.low = p then withN n c.plc c.h.toNat else n) 0
theorem leafOf_snoc (l : List Cl) (c : Cl) (p : Pt) : leafOf (l ++ [c]) p = if c.low = p then withN (leafOf l p) c.plc c.h.toNat else leafOf l p := by simp [leafOf]
theorem leafOf_lt (l : List Cl) (hl : ∀ c, c ∈ l → c.Fit) (p : Pt) : leafOf l p < 4294967296 := by
  induction l using snoc_ind with
  | h0 => simp [leafOf]
  | h1 l c ih =>
    have h1 := ih (fun c hc => hl c (by simp [hc]))
    rw [leafOf_snoc]
    split
    · have := plc_lt c.a c.b
      have h2 := (hl c (by simp)).2.2
      unfold withN
      exact Nat.or_lt_two_pow (n := 32) h1 (Nat.pow_lt_pow_right (by omega) (by unfold Cl.plc; omega))
    · exact h1
theorem leafOf_bit (l : List Cl) (p : Pt) (i : Nat) : (leafOf l p).testBit i = true ↔ ∃ c, c ∈ l ∧ c.low = p ∧ 2 * c.plc + c.h.toNat = i := by
  induction l using snoc_ind with
  | h0 => simp [leafOf]
  | h1 l c ih =>
    rw [leafOf_snoc]
    by_cases e : c.low = p
    · rw [if_pos e]
      unfold withN
      rw [Nat.testBit_or, Bool.or_eq_true, ih, Nat.testBit_two_pow]
      simp only [decide_eq_true_eq, List.mem_append, List.mem_singleton]
      constructor
      · rintro (⟨d, h1, h2, h3⟩ | h)
        · exact ⟨d, .inl h1, h2, h3⟩
        · exact ⟨c, .inr rfl, e, h⟩
      · rintro ⟨d, h1 | rfl, h2, h3⟩
        · exact .inl ⟨d, h1, h2, h3⟩
        · exact .inr h3
    · rw [if_neg e, ih]
      simp only [List.mem_append, List.mem_singleton]
      constructor
      · rintro ⟨d, h1, h2, h3⟩
        exact ⟨d, .inl h1, h2, h3⟩
      · rintro ⟨d, h1 | rfl, h2, h3⟩
        · exact ⟨d, h1, h2, h3⟩
        · exact absurd h2 e

theorem withN_lt {n k h : Nat} (hn : n < 4294967296) (hk : k < 16) (hh : h < 2) : withN n k h < 4294967296 :=
  Nat.or_lt_two_pow (n := 32) hn (Nat.pow_lt_pow_right (by omega) (by omega))
theorem I64.low {a : Int} (h : I64 a) : I64 (low4 a) := by unfold I64 low4 at *; omega

structure LvRel (l : List Cl) (w : World) (i : Nat) (b : Nat) (wr : World) : Prop where
  ex : ∃ ks f, PMapAt wr b i ks f ∧ (∀ p, mval ks f p = leafOf (l.take i) p) ∧ ∀ p, p ∈ ks ↔ ∃ c, c ∈ l.take i ∧ c.low = p
  only : Only (fun _ => False) w wr
  new : w.heap.size ≤ b

def LeavesPost (l : List Cl) (w : World) (e : Ending) (w' : World) : Prop := ∃ b, e = .returned (.map (some b)) ∧ LvRel l w l.length b w'

theorem mval_put (ks : List Pt) (f : Pt → Nat) (p : Pt) (v : Nat) (q : Pt) : mval (mput ks p) (fput f p v) q = if q = p then v else mval ks f q := by
  unfold mval mput fput
  by_cases e : q = p
  · subst e
    by_cases h : q ∈ ks
    · simp [h]
    · simp [h]
  · by_cases h : p ∈ ks
    · simp [h, e]
    · simp [h, e]
theorem mem_mput (ks : List Pt) (p q : Pt) : q ∈ mput ks p ↔ q = p ∨ q ∈ ks := by
  unfold mput
  split
  · rename_i h
    exact ⟨.inr, fun hq => by rcases hq with rfl | hq; exact h; exact hq⟩
  · simp
theorem LvRel.next {l : List Cl} {w wr W W' : World} {i b : Nat} {ks : List Pt} {f : Pt → Nat} {c : Cl} (hi : i < l.length) (hc : l.getD i default = c) (hv : ∀ p, mval ks f p = leafOf (l.take i) p) (hk : ∀ p, p ∈ ks ↔ ∃ c, c ∈ l.take i ∧ c.low = p)
    (hM : PMapAt W' b (i + 1) (mput ks c.low) (fput f c.low (withN (mval ks f c.low) c.plc c.h.toNat))) (h1 : Only (fun _ => False) w wr) (h2 : Only (fun _ => False) wr W) (h3 : Only (fun j => j = b) W W') (hb : w.heap.size ≤ b) : LvRel l w (i + 1) b W' := by
  have ht : l.take (i + 1) = l.take i ++ [c] := by
    rw [List.take_succ_eq_append_getElem hi]
    rw [List.getD_eq_getElem?_getD, List.getElem?_eq_getElem hi] at hc
    simp only [Option.getD_some] at hc
    rw [hc]
  refine ⟨⟨_, _, hM, fun p => ?_, fun p => ?_⟩, (h1.trans h2 (fun _ _ h => h)).trans h3 (fun i hi e => by omega), hb⟩
  · rw [mval_put, ht, leafOf_snoc]
    by_cases e : p = c.low
    · subst e; rw [if_pos rfl, if_pos rfl, hv]
    · rw [if_neg e, if_neg (fun h => e h.symm), hv]
  · rw [mem_mput, hk, ht]
    simp only [List.mem_append, List.mem_singleton]
    constructor
    · rintro (rfl | ⟨d, h1, h2⟩)
      · exact ⟨c, .inr rfl, rfl⟩
      · exact ⟨d, .inl h1, h2⟩
    · rintro ⟨d, h1 | rfl, h2⟩
      · exact .inr ⟨d, h1, h2⟩
      · exact .inl h2.symm

set_option maxRecDepth 100000 in
set_option maxHeartbeats 1000000 in
theorem Leaves_any (v : Value) (l : List Cl) (w : World) (hR : ClAt w 72 v l) (hfit : ∀ c, c ∈ l → c.Fit) (hl : l.length < 1000000) : Calls Try.prog 25 #[v] w (LeavesPost l w) := by
  obtain ⟨ad, cap, hv, hm⟩ := own_slice hR
  have HR := Lib.hid hR
  have HV := Lib.hid hv
  have HF := Lib.hid hfit
  clear hR hfit
  rw [HV.out]
  clear hv
  have hmm := @run_makeMap Try.prog
  go_enter Try.func25, Try.ntmps25
  go_wp2
  clear hmm
  go_loopw [10] (fun c wr => ∃ i : Nat, c = .int .i64 i ∧ i ≤ l.length ∧ LvRel l w i w.heap.size wr) (fun c _ => l.length - (intOf c).toNat)
  case atStart => exact ⟨0, rfl, by omega, ⟨_, _, PMapAt.made w, fun p => by simp [mval, leafOf], fun p => by simp⟩, (Only.refl _ _).alloc _, Nat.le_refl _⟩
  case round =>
    obtain ⟨i, rfl, hi, hL⟩ := hrel
    obtain ⟨wo, hwo⟩ : ∃ wo : World, wo = wr := ⟨_, rfl⟩
    rw [← hwo] at hL ⊢
    clear hwo
    by_cases hlt : i < l.length
    · have hR := HR.out.keep0 hL.only
      obtain ⟨g, cp, hv, _⟩ := own_form hR (by omega)
      have hv2 := HV.out.symm.trans hv
      simp only [Value.slice.injEq, true_and] at hv2
      obtain ⟨rfl, rfl⟩ := hv2
      rw [hv] at hR
      have hc := ClAt.cell hR rfl hlt
      have hcok := HF.out (l.getD i default) (by rw [List.getD_eq_getElem?_getD, List.getElem?_eq_getElem hlt]; exact List.getElem_mem hlt)
      obtain ⟨c, hcc⟩ : ∃ c, l.getD i default = c := ⟨_, rfl⟩
      rw [hcc] at hc hcok
      obtain ⟨c0, c1, c2⟩ := hc
      obtain ⟨hca, hcb, hch⟩ := hcok
      obtain ⟨h, hh⟩ : ∃ h, h = c.h.toNat := ⟨_, rfl⟩
      have hhc : c.h = (h : Int) := by omega
      have hh2 : h < 2 := by omega
      rw [hhc] at c2
      obtain ⟨ks, f, hM, hval, hks⟩ := hL.ex
      have hO := hL.only
      have hnx := fun (W W' : World) => LvRel.next (w := w) (wr := wo) (b := w.heap.size) (W := W) (W' := W') hlt hcc hval hks
      have hmv : mval ks f c.low < 4294967296 := by
        rw [hval]; exact leafOf_lt _ (fun c hc => HF.out c (List.mem_of_mem_take hc)) _
      have hlow := fun W => Low_any c.a c.b W hca hcb
      have hwith := fun W => With_any (mval ks f (low4 c.a, low4 c.b)) c.a c.b h W hca hcb hmv hh2
      have hwl : withN (mval ks f (low4 c.a, low4 c.b)) (plc c.a c.b) h < 4294967296 := withN_lt hmv (plc_lt _ _) hh2
      have hmb := hM.lt
      rw [← hh] at hnx
      have HNX := Lib.hid hnx
      have HM := Lib.hid hM
      have HO := Lib.hid hO
      have HLOW := Lib.hid hlow
      have HWITH := Lib.hid hwith
      have HP64 := Lib.hid (show Pt64 c.low from ⟨hca.low, hcb.low⟩)
      have hgs : g < wo.heap.size := World.block_lt_of_cell? wo _ c0
      clear hnx hM hO hlow hwith hL hval hks hcc hh hhc hR hv hch hmv
      obtain ⟨ca, cb, ch⟩ := c
      simp only at c0 c1 c2 hca hcb HLOW HWITH hwl
      go_wp2_with fail
      refine (HLOW.out _).mono ?_
      rintro e w1 ⟨rfl, hO1⟩
      have hB1 := (Blk.new wo 72 #[.int .i64 ca, .int .i64 cb, .int .i64 h]).only hO1 (fun h => h)
      have hO1' := ((Only.refl (fun _ => False) wo).alloc (.cells #[.int .i64 ca, .int .i64 cb, .int .i64 h] 72)).trans hO1 (fun _ _ h => h)
      have HB1 := Lib.hid hB1
      have HO1 := Lib.hid hO1'
      have hl1 := hB1.lt
      clear hB1 hO1 hO1' c0 c1 c2
      go_wp2_with fail
      have hMV := (HM.out.keep HO1.out (fun h => h)).keep ((Only.refl (fun _ => False) w1).alloc (.cells #[.int .i64 (low4 ca), .int .i64 (low4 cb)] 49)) (fun h => h)
      have hBV := HB1.out.alloc (.cells #[.int .i64 (low4 ca), .int .i64 (low4 cb)] 49)
      have hQV := Blk.new w1 49 #[.int .i64 (low4 ca), .int .i64 (low4 cb)]
      have hOV := HO1.out.alloc (.cells #[.int .i64 (low4 ca), .int .i64 (low4 cb)] 49)
      generalize w1.alloc (.cells #[.int .i64 (low4 ca), .int .i64 (low4 cb)] 49) = V at hMV hBV hQV hOV ⊢
      generalize w1.heap.size = q at hQV ⊢
      generalize wo.heap.size = r at hBV ⊢
      have hS : V.drew.cell? ⟨q, 0, none⟩ = some (.int .i64 (low4 ca)) ∧ V.drew.cell? ⟨q, 1, none⟩ = some (.int .i64 (low4 cb)) ∧ V.drew.cell? ⟨r, 0, none⟩ = some (.int .i64 ca) ∧ V.drew.cell? ⟨r, 1, none⟩ = some (.int .i64 cb) ∧ V.drew.cell? ⟨r, 2, none⟩ = some (.int .i64 h) :=
        ⟨hQV.drew.cell 0, hQV.drew.cell 1, hBV.drew.cell 0, hBV.drew.cell 1, hBV.drew.cell 2⟩
      have hbq := hMV.not_cells hQV
      have hbr := hMV.not_cells hBV
      have hMd := hMV.keep ((Only.refl (fun _ => False) V).drew) (fun h => h)
      have hOd := hOV.drew
      have HS := Lib.hid hS
      have HMd := Lib.hid hMd
      have HOd := Lib.hid hOd
      have HNE := Lib.hid (And.intro hbq hbr)
      clear hS hMd hOd hMV hBV hQV hOV hbq hbr
      refine wp_region_plan (fun W => W.cell? ⟨q, 0, none⟩ = some (.int .i64 (low4 ca)) ∧ W.cell? ⟨q, 1, none⟩ = some (.int .i64 (low4 cb)) ∧ W.cell? ⟨r, 0, none⟩ = some (.int .i64 ca) ∧ W.cell? ⟨r, 1, none⟩ = some (.int .i64 cb) ∧ W.cell? ⟨r, 2, none⟩ = some (.int .i64 h)) (.head 0 (.head 1 (.head 2 (.head 3 (.head 5 (.one 4 (.one 6 (.one 7 .stop)))))))) [] (by kernel_rfl) (by kernel_rfl) (fun _ _ d _ _ h => by cases d <;> exact h) HS.out ?_
      iterate 5
        refine stepP_head (v := ?_) rfl rfl ?_ ?_
        rotate_left
        · rintro W' ⟨s0, s1, s2, s3, s4⟩
          go_simp
          try rfl
        try simp only [Act.put, List.setIfInBounds_toArray, List.set_cons_zero, List.set_cons_succ]
      generalize V.drew = U at *
      refine stepP_one rfl ?_
      refine wp_plook U rfl _ _ rfl w.heap.size i ks f rfl HMd.out (low4 ca, low4 cb) HP64.out rfl ?_
      go_wp2_with fail
      refine ⟨HS.out, stepP_one rfl ?_⟩
      go_wp2_with fail
      refine (HWITH.out _).mono ?_
      rintro e W2 ⟨rfl, hO2⟩
      have hO2' := HOd.out.trans hO2 (fun _ _ h => h)
      have hM2 := HMd.out.keep hO2 (fun h => h)
      have hS2 : W2.cell? ⟨q, 0, none⟩ = some (.int .i64 (low4 ca)) ∧ W2.cell? ⟨q, 1, none⟩ = some (.int .i64 (low4 cb)) ∧ W2.cell? ⟨r, 0, none⟩ = some (.int .i64 ca) ∧ W2.cell? ⟨r, 1, none⟩ = some (.int .i64 cb) ∧ W2.cell? ⟨r, 2, none⟩ = some (.int .i64 h) := by
        obtain ⟨s0, s1, s2, s3, s4⟩ := HS.out
        exact ⟨hO2.cell s0 (fun h => h), hO2.cell s1 (fun h => h), hO2.cell s2 (fun h => h), hO2.cell s3 (fun h => h), hO2.cell s4 (fun h => h)⟩
      have HS2 := Lib.hid hS2
      have HM2 := Lib.hid hM2
      have HO2 := Lib.hid hO2'
      clear hO2 hO2' hM2 hS2
      go_wp2_with fail
      refine ⟨HS2.out, stepP_one rfl ?_⟩
      refine wp_pput W2 rfl _ _ _ rfl w.heap.size i ks f rfl HM2.out (by omega) (low4 ca, low4 cb) HP64.out rfl (withN (mval ks f (low4 ca, low4 cb)) (Go.Proofs.Ytblhbfniomlfkaa.plc ca cb) h) hwl rfl ?_
      intro W3 hM3 hO3
      have hS3 : W3.cell? ⟨q, 0, none⟩ = some (.int .i64 (low4 ca)) ∧ W3.cell? ⟨q, 1, none⟩ = some (.int .i64 (low4 cb)) ∧ W3.cell? ⟨r, 0, none⟩ = some (.int .i64 ca) ∧ W3.cell? ⟨r, 1, none⟩ = some (.int .i64 cb) ∧ W3.cell? ⟨r, 2, none⟩ = some (.int .i64 h) := by
        obtain ⟨s0, s1, s2, s3, s4⟩ := HS2.out
        obtain ⟨n1, n2⟩ := HNE.out
        exact ⟨hO3.cell s0 (fun h => n1 h.symm), hO3.cell s1 (fun h => n1 h.symm), hO3.cell s2 (fun h => n2 h.symm), hO3.cell s3 (fun h => n2 h.symm), hO3.cell s4 (fun h => n2 h.symm)⟩
      have HN := Lib.hid (HNX.out W2 W3 hM3 HO.out HO2.out hO3 (Nat.le_refl _))
      have HS3 := Lib.hid hS3
      clear hM3 hO3 hS3
      go_wp2_with fail
      refine ⟨HS3.out, stepP_stop ?_⟩
      simp only [pick]
      go_wp2_with fail
      go_roundw
      case rel => exact ⟨i + 1, by go_num, hlt, HN.out⟩
      case measure => simp [intOf]; omega
    · obtain rfl : i = l.length := by omega
      have HL := Lib.hid hL
      clear hL
      go_wp2_with fail
      go_ret
      exact ⟨_, rfl, HL.out⟩
end Go.Proofs.Ytblhbfniomlfkaa
