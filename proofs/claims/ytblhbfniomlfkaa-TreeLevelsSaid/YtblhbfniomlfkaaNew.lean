/- New: an arena with the empty leaf alone. -/
import Derived.Test.YtblhbfniomlfkaaJoin
namespace Go.Proofs.Ytblhbfniomlfkaa
open Go.RowKit

def leaf0 : Nd := ⟨2, 0, 0, 0, 0, 0, 0⟩

/-- The arena with other empties. -/
def Ars.emptied (A : Ars) (v : Value) (es : List Nat) : Ars := { A with ve := v, es := es }

theorem Ars.At.setEmpty {A : Ars} {w w1 : World} {g cap : Nat} {es : List Nat} (h : A.At w) (hg : w.grownBy w1 A.ve.ownBlock) (hown : w1.ownsRow 0 32 1 (.slice (some ⟨g, 0, none⟩) es.length cap) es.length (u32s es))
    (hat : A.ve.ownBlock = some g ∨ w.heap.size ≤ g) :
    (A.emptied (.slice (some ⟨g, 0, none⟩) es.length cap) es).At (w1.setCell ⟨A.p, 2, none⟩ (.slice (some ⟨g, 0, none⟩) es.length cap)) := by
  have hs := Only.set1 w1 A.p 2 (.slice (some ⟨g, 0, none⟩) es.length cap)
  have ho : Only (fun k => A.ve.ownBlock = some k) w w1 := (Only.refl _ w).grown hg (fun k e _ => e)
  have hb1 : Blk w1 A.p 102 #[A.vn, A.vs, A.ve, .int .i64 A.most] := h.blk.only ho (own_blk_ne h.owe h.blk (by decide))
  have hn1 := own_only h.own ho (fun k hk hk' => own_own_ne h.own h.owe (by decide) k hk hk')
  have hs1 := own_only h.ows ho (fun k hk hk' => h.apart k hk hk')
  refine ⟨?_, ?_, ?_, ?_, ?_⟩
  · have := hb1.set_ 2 (.slice (some ⟨g, 0, none⟩) es.length cap)
    simpa [Ars.emptied] using this
  · exact own_only hn1 hs (fun k hk hkp => own_blk_ne hn1 hb1 (by decide) (hk.trans (congrArg some hkp)))
  · exact own_only hs1 hs (fun k hk hkp => own_blk_ne hs1 hb1 (by decide) (hk.trans (congrArg some hkp)))
  · exact own_only hown hs (fun k hk hkp => own_blk_ne hown hb1 (by decide) (hk.trans (congrArg some hkp)))
  · intro k hk hk'
    have e : g = k := by simpa [Ars.emptied, Value.ownBlock] using hk'
    subst e
    rcases hat with h1 | h1
    · exact h.apart g hk h1
    · have := own_lt h.ows hk; omega

theorem Arena0 {w w1 : World} {most : Int} (hown : w1.ownsRow 0 32 1 (.slice (some ⟨w.heap.size, 0, none⟩) 128 128) 128 (madeCells (Value.int .u32 0).cells (128 * 1)).toList) (p : Nat) (hp : p = w1.heap.size) :
    (⟨p, .slice none 0 0, .slice (some ⟨w.heap.size, 0, none⟩) 128 128, .slice none 0 0, [], List.replicate 128 0, [], most⟩ : Ars).At
      (w1.alloc (.cells #[.slice none 0 0, .slice (some ⟨w.heap.size, 0, none⟩) 128 128, .slice none 0 0, .int .i64 most] 102)) := by
  subst hp
  rw [u32s_zeros] at hown
  refine ⟨Blk.new _ _ _, World.ownsRow_nil _ _ _ _, ?_, World.ownsRow_nil _ _ _ _, fun k _ h => by simp [Value.ownBlock] at h⟩
  have := hown.alloc (.cells #[.slice none 0 0, .slice (some ⟨w.heap.size, 0, none⟩) 128 128, .slice none 0 0, .int .i64 most] 102)
  simpa using this

theorem Inv0 (p : Nat) (v : Value) (most : Int) : (⟨p, .slice none 0 0, v, .slice none 0 0, [], List.replicate 128 0, [], most⟩ : Ars).Inv :=
  ⟨Ht.start _ _ _ (by decide), by simp, by simp, by simp, fun i j _ h => by simp at h, fun i h => by simp at h, fun i h => by simp at h⟩

/-- What New hands back. -/
structure NewPost (w : World) (most : Int) (A : Ars) (w' : World) : Prop where
  at_ : A.At w'
  inv : A.Inv
  ns : A.ns = [leaf0]
  es : A.es = [0, 0, 0]
  most : A.most = most
  only : Only (fun _ => False) w w'
  foot : ∀ k, A.foot k → w.heap.size ≤ k

theorem zero_fresh (most : Int) (h : 64 ≤ most) : findR [] most (leafKey 0) (popc 0) = (0, 0, [leaf0]) := by
  have : idx [] (leafKey 0) = none := idx_none (fun i h => by simp at h)
  unfold findR
  rw [this, if_neg (by simp; omega), popc_zero]
  rfl

theorem newLeaf {w w1 : World} {most : Int} (h64 : 64 ≤ most) (hown : w1.ownsRow 0 32 1 (.slice (some ⟨w.heap.size, 0, none⟩) 128 128) 128 (madeCells (Value.int .u32 0).cells (128 * 1)).toList) :
    Calls Try.prog 38 #[.pointer (some ⟨w1.heap.size, 0, none⟩), .int .u32 0] (w1.alloc (.cells #[.slice none 0 0, .slice (some ⟨w.heap.size, 0, none⟩) 128 128, .slice none 0 0, .int .i64 most] 102)) fun e w' => ∃ A' : Ars, A'.At w' ∧ A'.Inv ∧ A'.ns = [leaf0] ∧
      A'.p = w1.heap.size ∧ A'.most = most ∧ A'.ve = .slice none 0 0 ∧ Only (fun k => k = w1.heap.size ∨ k = w.heap.size) (w1.alloc (.cells #[.slice none 0 0, .slice (some ⟨w.heap.size, 0, none⟩) 128 128, .slice none 0 0, .int .i64 most] 102)) w' ∧ (∀ k, A'.foot k → k = w1.heap.size ∨ k = w.heap.size ∨ w1.heap.size ≤ k) ∧
      e = .returned (.tuple #[.int .u32 0, .nilIface]) := by
  refine (Leaf_any ⟨w1.heap.size, .slice none 0 0, .slice (some ⟨w.heap.size, 0, none⟩) 128 128, .slice none 0 0, [], List.replicate 128 0, [], most⟩ 0 _ (Arena0 hown _ rfl) (Inv0 _ _ _) (by simp) (by omega)).mono ?_
  rintro e w' ⟨A', hS, he⟩
  have hz := zero_fresh most h64
  simp only [hz] at hS he
  have hf : ∀ k, (⟨w1.heap.size, .slice none 0 0, .slice (some ⟨w.heap.size, 0, none⟩) 128 128, .slice none 0 0, [], List.replicate 128 0, [], most⟩ : Ars).foot k → k = w1.heap.size ∨ k = w.heap.size := by
    intro k hk
    simp only [Ars.foot, Value.ownBlock, Option.some.injEq, reduceCtorEq, false_or, or_false] at hk
    rcases hk with h | h
    · exact .inl h
    · exact .inr h.symm
  refine ⟨A', hS.at_, hS.inv, hS.ns, hS.p, hS.most, hS.ve, hS.only.mono (fun k _ hk => hf k hk), fun k hk => ?_, ?_⟩
  · rcases hS.foot k hk with h | h
    · rcases hf k h with h | h
      · exact .inl h
      · exact .inr (.inl h)
    · have h : w1.heap.size + 1 ≤ k := by simpa using h
      exact .inr (.inr (by omega))
  · rw [he]; simp [errV]

theorem new_done {w w1 W : World} {A' : Ars} {most : Int} {o : Obj} (hg1 : w.grownBy w1 none) (hlo : w.heap.size < w1.heap.size) (hI : A'.Inv) (hO : Only (fun k => k = w1.heap.size ∨ k = w.heap.size) (w1.alloc o) W) (hF : ∀ k, A'.foot k → k = w1.heap.size ∨ k = w.heap.size ∨ w1.heap.size ≤ k)
    (hA : A'.At W) (hP : A'.p = w1.heap.size) (hN : A'.ns = [leaf0]) (hM : A'.most = most) (hpp : w1.heap.size < W.heap.size) :
    ∃ A, NewPost w most A ((W.setCell ⟨w1.heap.size, 2, none⟩ (.slice (some ⟨W.heap.size, 0, none⟩) 3 3)).alloc (.cells #[.int .u32 0, .int .u32 0, .int .u32 0] 32)) ∧
      Ending.returned (.pointer (some ⟨w1.heap.size, 0, none⟩)) = Ending.returned (.pointer (some ⟨A.p, 0, none⟩)) := by
  have hsz := hO.size
  rw [World.size_alloc] at hsz
  have hown : (W.alloc (.cells #[.int .u32 0, .int .u32 0, .int .u32 0] 32)).ownsRow 0 32 1 (.slice (some ⟨W.heap.size, 0, none⟩) 3 3) 3 (u32s [0, 0, 0]) :=
    World.ownsRow_lit W #[.int .u32 0, .int .u32 0, .int .u32 0] 3 (Nat.zero_le _) (by unfold maxLen; omega) rfl
  have h2 := hA.setEmpty (es := [0, 0, 0]) (World.grownBy_alloc W (.cells #[.int .u32 0, .int .u32 0, .int .u32 0] 32) A'.ve.ownBlock) hown (.inr (Nat.le_refl _))
  rw [hP] at h2
  have e := World.setCell_alloc_past (w := W) (.cells #[.int .u32 0, .int .u32 0, .int .u32 0] 32) w1.heap.size 2 (.slice (some ⟨W.heap.size, 0, none⟩) 3 3) hpp
  rw [← e]
  refine ⟨_, ⟨h2, ?_, hN, rfl, hM, ?_, ?_⟩, by rw [← hP]; rfl⟩
  · exact ⟨hI.ht, hI.load, hI.size, hI.big, hI.dis, hI.fit, hI.cnt⟩
  · have h3 : Only (fun _ => False) w (w1.alloc o) := ((Only.refl _ w).grown hg1 (fun k e => by cases e)).alloc o
    have h4 : Only (fun _ => False) w W := h3.trans hO (fun i hi h => by rcases h with h | h <;> omega)
    exact (h4.alloc _).trans (Only.set1 _ _ _ _) (fun i hi h => by omega)
  · intro k hk
    rcases hk with h | h | h | h
    · rw [h]; show w.heap.size ≤ A'.p; rw [hP]; omega
    · rcases hF k (.inr (.inl h)) with h | h | h <;> omega
    · rcases hF k (.inr (.inr (.inl h))) with h | h | h <;> omega
    · have h' : W.heap.size = k := by simpa [Ars.emptied, Value.ownBlock] using h
      omega

set_option maxRecDepth 100000 in
set_option maxHeartbeats 1000000 in
theorem New_big (most : Int) (w : World) (hm : most ≤ 9223372036854775807) (hm' : 64 ≤ most) :
    Calls Try.prog 37 #[.int .i64 most] w fun e w' => ∃ A, NewPost w most A w' ∧ e = .returned (.pointer (some ⟨A.p, 0, none⟩)) := by
  obtain ⟨i0, hi, hz0, hz1, hz2⟩ := info_parts u32_info
  have HI := Lib.hid hi
  have HZ0 := Lib.hid hz0
  have HZ1 := Lib.hid hz1
  have HZ2 := Lib.hid hz2
  clear hi hz0 hz1 hz2
  have hmx : ¬ most < 64 := by omega
  go_enter Try.func37, Try.ntmps37
  go_wp2_with (first | (refine wpList_make_full _ rfl _ _ 22 rfl 0 32 i0 _ 1 Try.underlying22 HI.out HZ0.out HZ1.out .i64 .i64 _ _ 128 rfl rfl (by omega) (by omega) (by rw [HZ2.out]; omega) (by unfold maxLen; omega) (Nat.zero_le _) ?_; intro w1 hown1 hg1) | fail)
  refine (newLeaf hm' hown1).mono ?_
  rintro e W ⟨A', hA, hI, hns, hp, hmost, hve, hO, hF, rfl⟩
  have hsz := hg1.size
  have hsz2 : w1.heap.size + 1 ≤ W.heap.size := by simpa using hO.size
  have hlo : w.heap.size < w1.heap.size := own_lt hown1 rfl
  have c2 := hA.c2
  have f2 := hA.f 2
  have hpp := hA.blk.lt
  rw [hp] at c2 f2 hpp
  have HA := Lib.hid hA
  have HVE := Lib.hid hve
  have HP := Lib.hid hp
  have HN := Lib.hid hns
  have HM := Lib.hid hmost
  clear hA hve hp hns hmost hown1
  go_wp2
  go_ret
  go_light
  exact new_done hg1 hlo hI hO hF HA.out HP.out HN.out HM.out hpp
end Go.Proofs.Ytblhbfniomlfkaa
