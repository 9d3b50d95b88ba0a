/- Part 21 of what is proved in the last text (packed by a program of mine). -/
import Derived.Test.YtfoffehokhkohaaGreatK11
import Derived.Test.YtfoffehokhkohaaGreatK12
import Derived.Test.YtfoffehokhkohaaGreatK13
import Derived.Test.YtfoffehokhkohaaGreatK20
set_option linter.all false
set_option maxRecDepth 20000
namespace Go.Proofs.YtfoffehokhkohaaGreat
open Go
def cFmt (blocks k : Nat) : List Nat := List.replicate (2 + k) 1 ++ List.replicate (blocks - 2 - k) 0
theorem cFmt_length (blocks k : Nat) (h : 2 + k ≤ blocks) : (cFmt blocks k).length = blocks := by simp [cFmt]; omega
theorem cFmt_getD (blocks k n : Nat) : (cFmt blocks k).getD n 0 = if n < 2 + k then 1 else 0 := by
 unfold cFmt
 rw [List.getD_eq_getElem?_getD, List.getElem?_append]
 rw [List.length_replicate]
 split
 ·rw [List.getElem?_replicate, if_pos ‹_›]; rfl
 ·rw [List.getElem?_replicate]; split <;> rfl
theorem cFmt_ok (blocks k : Nat) (h : 2 + k ≤ blocks) (hb : blocks ≤ 4096) : CountsOk (cFmt blocks k) := by
 constructor
 ·rw [cFmt_length _ _ h]; omega
 ·intro x hx
  unfold cFmt at hx
  rcases List.mem_append.1 hx with hx | hx
  ·have := (List.mem_replicate.1 hx).2; omega
  ·have := (List.mem_replicate.1 hx).2; omega
theorem cFmt_take (blocks k : Nat) (h : 2 + k < blocks) : cTake (cFmt blocks k) [] = some (2 + k) := by
 unfold cTake
 rw [cFmt_length _ _ (by omega)]
 refine find_range h (fun j hj => ?_) ?_
 ·rw [cFmt_getD, if_pos hj]; rfl
 ·rw [cFmt_getD, if_neg (by omega)]; rfl
theorem cFmt_set (blocks k : Nat) (h : 2 + k < blocks) : (cFmt blocks k).set (2 + k) 1 = cFmt blocks (k + 1) := by
 apply List.ext_getElem
 ·rw [List.length_set, cFmt_length _ _ (by omega), cFmt_length _ _ (by omega)]
 ·intro i h1 h2
  have e1 := cFmt_getD blocks k i
  have e2 := cFmt_getD blocks (k + 1) i
  rw [List.length_set] at h1
  rw [List.getD_eq_getElem?_getD, List.getElem?_eq_getElem h1] at e1
  rw [List.getD_eq_getElem?_getD, List.getElem?_eq_getElem h2] at e2
  rw [List.getElem_set]
  split
  ·rename_i e; rw [if_pos (by omega)] at e2; exact e2.symm
  ·rename_i e
   simp only [Option.getD_some] at e1 e2
   rw [e1, e2]
   by_cases h3 : i < 2 + k
   ·rw [if_pos h3, if_pos (by omega)]
   ·rw [if_neg h3, if_neg (by omega)]
def spFmt (size blocks : Nat) (dur : List Bytes) : Sp :=
 {size, blocks, gen := 1, root := 0, slot := 0, sup := List.range' 2 (superN size blocks), held := cFmt blocks (superN size blocks), now := cFmt blocks (superN size blocks),
  dur := flushD (flushD dur ((1, List.replicate size 0) :: cWrites size 1 (List.range' 2 (superN size blocks)) (cFmt blocks (superN size blocks)))) [(0, superB size blocks 1 0 (List.range' 2 (superN size blocks)))], pend := [] }
theorem space_Format (db size blocks : Nat) (dur : List Bytes) (g : GeoOk size blocks) (hN : 2 + superN size blocks ≤ blocks) (hf : 14 + 4 * superN size blocks ≤ size - 16) (hd : dur.length = blocks) :
  FnSpec Tryz.prog 38 [.res fun _ => DevR db size blocks dur []] [.pt fun _ => ⟨db, 0, none⟩]
   (fun v hp => ∃ b, v = .tup [.pt fun _ => ⟨b, 0, none⟩, .int .i64 fun _ => 0] ∧ hp = [.res fun _ => SpaceR b db (spFmt size blocks dur)]) := by
 have g1 := g.h1
 have g2 := g.h2
 have g4 := g.h4
 have g5 := g.h5
 have hSO : SuperOk size blocks 1 0 (List.range' 2 (superN size blocks)) := ⟨g, by omega, by omega, .inl rfl, by simp, fun n hn => by
  rw [List.mem_range'_1] at hn; omega, List.nodup_range', by simpa using hf⟩
 have hNew := counts_New size blocks g
 have hc0 : 1 :: 1 :: List.replicate (blocks - 2) 0 = cFmt blocks 0 := by unfold cFmt; simp [List.replicate_succ]
 rw [hc0] at hNew
 obtain ⟨cc0, hcc0⟩ : ∃ x, x = cFmt blocks 0 := ⟨_, rfl⟩
 rw [← hcc0] at hNew
 have hPages := super_Pages size blocks g
 refine spec_cl mixed F38 rfl rfl rfl (fun Γ hΓ hb => ?_)
 cbv
 refine cP hΓ ((dev_Geo db size blocks dur [])) [0] ?_
 rintro x hp' ⟨rfl, rfl⟩
 refine ⟨rfl, ?_⟩
 cbv
 refine callP_by hΓ hNew [] (by simp) trivial rfl ?_
 rintro x hp' ⟨nb, rfl, rfl⟩
 refine ⟨rfl, ?_⟩
 cbv
 refine .no (neF rfl) ?_
 cbv
 refine cP hΓ ((dev_Geo db size blocks dur [])) [0] ?_
 rintro x hp' ⟨rfl, rfl⟩
 refine ⟨rfl, ?_⟩
 cbv
 intro b2
 cbv
 refine cP hΓ ((dev_Geo db size blocks dur [])) [0] ?_
 rintro x hp' ⟨rfl, rfl⟩
 refine ⟨rfl, ?_⟩
 cbv
 refine cP hΓ (hPages) [] ?_
 rintro x hp' ⟨rfl, rfl⟩
 refine ⟨rfl, ?_⟩
 cbv
 obtain ⟨N, hNN⟩ : ∃ N, N = superN size blocks := ⟨_, rfl⟩
 have hNl : 14 + 4 * N ≤ size - 16 := by omega
 rw [← hNN]
 refine loopJ (α := Nat × List Nat × List Nat × Option Addr × Option Addr × Nat) (fun (k, c, l, _, _, _) => k ≤ N ∧ c = cFmt blocks k ∧ l = List.range' 2 k)
  (fun (k, c, l, a, ad, e) => ⟨74, [(0, .pt fun _ => ⟨db, 0, none⟩), (4, .pt fun _ => ⟨nb, 0, none⟩), (6, .bp 2 0), (28, .int .i64 fun _ => toI N), (29, .int .i64 fun _ => toI k)],
  [.res fun _ => DevR db size blocks dur [], .res fun _ => CountsR nb size blocks c,
   .box b2 78 [.int .u64 fun _ => 1, .int .i64 fun _ => toI size, .int .i64 fun _ => toI blocks, .int .u32 fun _ => 0, .sl 3 (fun _ => a) (fun _ => 0) (fun _ => k) (fun _ => e)] true, .arr ad (fun _ => k) (fun _ => e) [.nat .u32 fun _ => l] true], []⟩)
  (fun (k, _, _, _, _, _) => N - k) (0, cc0, [], none, none, 0) ⟨Nat.zero_le _, hcc0, rfl⟩ (Sub.nil [.nat .u32] (sub2 [0, 1, 2, 3] 1 hb rfl rfl rfl rfl rfl rfl rfl rfl ?_)) ?_
 ·cbv
  (repeat' first | with_reducible rfl | exact (show Ch.base _ = _ from rfl) | ((try simp only [toI, inI, List.length_nil] at *); omega) | exact trivial | refine ⟨?_, ?_⟩ | refine ⟨?_⟩ | intro _)
  rfl
 rintro ⟨k, c, l, a, ad, e⟩ hJ
 have hJ : k ≤ N ∧ c = cFmt blocks k ∧ l = List.range' 2 k := hJ
 obtain ⟨hk, hc, hl⟩ := hJ
 cbv
 refine ⟨fun hlt => ?_, fun hlt => ?_⟩
 ·replace hlt := toI_lt hlt
  have hT := counts_Take0 nb size blocks (2 + k) c (by rw [hc]; exact cFmt_ok blocks k (by omega) g5) (by rw [hc]; exact cFmt_take blocks k (by omega))
  have hcs : c.set (2 + k) 1 = cFmt blocks (k + 1) := by rw [hc]; exact cFmt_set blocks k (by omega)
  have hls : l ++ [2 + k] = List.range' 2 (k + 1) := by rw [hl, List.range'_concat]; simp
  have hll : l.length = k := by rw [hl]; simp
  obtain ⟨c2, hc2⟩ : ∃ x, x = cFmt blocks (k + 1) := ⟨_, rfl⟩
  rw [hcs, ← hc2] at hT
  obtain ⟨n, hn⟩ : ∃ n, n = 2 + k := ⟨_, rfl⟩
  rw [← hn] at hT hls
  cbv
  refine cP hΓ (hT) [1] ?_
  rintro x hp' ⟨rfl, rfl⟩
  refine ⟨rfl, ?_⟩
  cbv
  refine .no (neF rfl) ?_
  cbv
  refine ⟨⟨rf, trivial⟩, fun b5 => ?_⟩
  cbv
  refine .any (VC.mk rf fun a6 a7 e8 hx => ?_)
  cbv
  refine .mk rf ?_
  cbv
  obtain ⟨l2, hl2⟩ : ∃ x, x = l ++ [n] := ⟨_, rfl⟩
  rw [← hl2] at hls
  refine ⟨(k + 1, c2, l2, a7, a6, e8), ⟨by omega, hc2, hls⟩, show N - (k + 1) < N - k by omega, sub2 [0, 1, 2, 5] 1 hb rfl rfl rfl rfl rfl rfl rfl rfl ?_⟩
  cbv
  (repeat' first | with_reducible rfl | exact (show Ch.base _ = _ from rfl) | ((try simp only [toI, inI, List.length_nil] at *); omega) | exact trivial | refine ⟨?_, ?_⟩ | refine ⟨?_⟩ | intro _)
  rw [List.drop_zero, List.take_of_length_le (by omega), toI_toNat]
  exact hl2.symm
 ·replace hlt := toI_nlt hlt
  have : k = N := by omega
  subst this
  cbv
  have hCk := super_Check size blocks 1 0 e e a ad l (by rw [hl, hNN]; exact hSO)
  have hll : l.length = k := by rw [hl]; simp
  have hcN := cFmt_ok blocks k (by omega) g5
  rw [hll] at hCk
  refine cP hΓ (hCk) [3] ?_
  rintro x hp' ⟨rfl, rfl⟩
  refine ⟨rfl, ?_⟩
  cbv
  refine .no (neF rfl) ?_
  cbv
  refine cP hΓ ((dev_Geo db size blocks dur [])) [0] ?_
  rintro x hp' ⟨rfl, rfl⟩
  refine ⟨rfl, ?_⟩
  cbv
  repeat ((first | refine VC.mk rf ?_ | refine ADD.mk rf ?_); cbv)
  intro b5
  cbv
  repeat ((first | refine VC.mk rf ?_ | refine ADD.mk rf ?_); cbv)
  obtain ⟨zs, hzs⟩ : ∃ x, x = List.replicate size (0 : UInt8) := ⟨_, rfl⟩
  have hzl : zs.length = size := by rw [hzs]; simp
  refine callP_eq (args' := [.pt fun _ => ⟨db, 0, none⟩, .int .i64 fun _ => toI 1, .str fun _ => zs]) (hp' := [.res fun _ => DevR db size blocks dur [], .res fun _ => CountsR nb size blocks c,
   .box b2 78 [.int .u64 fun _ => 1, .int .i64 fun _ => toI size, .int .i64 fun _ => toI blocks, .int .u32 fun _ => 0, .sl 3 (fun _ => a) (fun _ => 0) (fun _ => k) (fun _ => e)] true, .arr ad (fun _ => k) (fun _ => e) [.nat .u32 fun _ => l] true, .gone (some ⟨b5, 0, none⟩) 1]) [.one 0, .one 1, .one 2, .one 3, .one 4] 1 hb rfl rfl (nodup_of rfl) rfl rfl rfl ?_ ?_
  ·cbv
   (repeat' first | with_reducible rfl | exact (show Ch.base _ = _ from rfl) | ((try simp only [toI, inI, List.length_nil] at *); omega) | exact trivial | refine ⟨?_, ?_⟩ | refine ⟨?_⟩ | intro _)
   rw [toI_toNat, List.drop_zero, hzs]
   show List.take size (List.replicate size 0) = _
   rw [List.take_of_length_le (by simp)]
  have hDW := dev_Write db size blocks 1 dur [] zs (by omega) g5 hzl (by simp)
  rw [List.nil_append] at hDW
  have hCm := space_commit db nb size blocks 1 0 0 e e a ad l c dur [(1, zs)] (by rw [hl, hNN]; exact hSO) (by rw [hc]; exact hcN) (by rw [hc]; exact cFmt_length _ _ (by omega)) hd (by simp) (by simpa using by omega) (by omega)
  rw [hll] at hCm
  generalize hdu : flushD (flushD dur ([(1, zs)] ++ cWrites size 1 l c)) [(0, superB size blocks 1 0 l)] = du at hCm
  refine cP hΓ (hDW) [0] ?_
  rintro x hp' ⟨rfl, rfl⟩
  refine ⟨rfl, ?_⟩
  cbv
  refine .no (neF rfl) ?_
  cbv
  refine cP hΓ (hCm) [0, 1, 3] ?_
  rintro x hp' ⟨rfl, rfl⟩
  refine ⟨rfl, ?_⟩
  cbv
  refine .no (neF rfl) ?_
  cbv
  refine callP_by hΓ (counts_Clone nb size blocks c (by rw [hc]; exact hcN)) [1] (by simp) ⟨⟨_, rfl, .inl rfl⟩, trivial⟩ rfl ?_
  rintro x hp' ⟨nb2, rfl, rfl⟩
  refine ⟨rfl, ?_⟩
  cbv
  refine ⟨rfl, ?_⟩
  cbv
  intro b6
  cbv
  have hσ : spFmt size blocks dur = ⟨size, blocks, 1, 0, 0, l, c, c, du, []⟩ := by
   unfold spFmt
   rw [← hNN, ← hl, ← hc, ← hdu, hzs]
   rfl
  rw [hσ]
  refine Cl.byd (v' := .tup [.pt fun _ => ⟨b6, 0, none⟩, .int .i64 fun _ => 0]) (hp' := [.res fun _ => SpaceR b6 db ⟨size, blocks, 1, 0, 0, l, c, c, du, []⟩]) [.pack 0 [6, 3, 1, 5, 0]] 1 hb rfl rfl (nodup_of rfl) rfl
   ⟨⟨_, _, (⟨106, a, ad, e, nb, nb2⟩ : SpQ), rfl, rfl, rfl, rfl, ?_, rfl⟩, trivial⟩ rfl rfl ⟨b6, rfl, rfl⟩
  ·cbv
   (repeat' first | with_reducible rfl | exact (show Ch.base _ = _ from rfl) | ((try simp only [toI, inI, List.length_nil] at *); omega) | exact trivial | refine ⟨?_, ?_⟩ | refine ⟨?_⟩ | intro _)
   all_goals (show l.length = k; exact hll)
end Go.Proofs.YtfoffehokhkohaaGreat
namespace Go.Proofs.YtfoffehokhkohaaGreat
open Go
inductive Vis (pg : PG) : Nat → List Nat → List Bool → List (Nat × List Bool) → List Bool → Prop
 | nil {f : Nat} {s : List Bool} : Vis pg f [] s [] s
 | zero {f : Nat} {l : List Nat} {s s' : List Bool} {ys : List (Nat × List Bool)} : Vis pg f l s ys s' → Vis pg f (0 :: l) s ys s'
 | old {f n : Nat} {l : List Nat} {s s' : List Bool} {ys : List (Nat × List Bool)} : n ≠ 0 → s.getD n false = true → Vis pg f l s ys s' → Vis pg f (n :: l) s ((n, s) :: ys) s'
 | new {f n : Nat} {l : List Nat} {s s1 s2 : List Bool} {y1 y2 : List (Nat × List Bool)} : n ≠ 0 → s.getD n false = false → Vis pg f (pg n).kids (s.set n true) y1 s1 → Vis pg (f + 1) l s1 y2 s2 → Vis pg (f + 1) (n :: l) s ((n, s) :: (y1 ++ y2)) s2
theorem Vis.len {pg : PG} {f : Nat} {l : List Nat} {s s' : List Bool} {ys : List (Nat × List Bool)} (h : Vis pg f l s ys s') : s'.length = s.length ∧ ∀ p ∈ ys, p.2.length = s.length := by
 induction h with
 | nil => exact ⟨rfl, fun p hp => by cases hp⟩
 | zero _ ih => exact ih
 | old _ _ _ ih => exact ⟨ih.1, fun p hp => by rcases List.mem_cons.1 hp with rfl | hp; rfl; exact ih.2 p hp⟩
 | new _ _ _ _ ih1 ih2 =>
  rw [List.length_set] at ih1
  refine ⟨ih2.1.trans ih1.1, fun p hp => ?_⟩
  rcases List.mem_cons.1 hp with rfl | hp
  ·rfl
  ·rcases List.mem_append.1 hp with hp | hp
   ·exact ih1.2 p hp
   ·exact (ih2.2 p hp).trans ih1.1
theorem Vis.ex {σ : Sp} {pg : PG} {E : List Nat} (h : Inv σ pg E) : ∃ f, ∀ l : List Nat, (∀ n ∈ l, n ≠ 0 → live σ n = true) → ∀ s, ∃ ys s', Vis pg f l s ys s' := by
 obtain ⟨rk, hrk⟩ := h.rank
 have main : ∀ f, ∀ l : List Nat, (∀ n ∈ l, n ≠ 0 → live σ n = true ∧ rk n < f) → ∀ s, ∃ ys s', Vis pg f l s ys s' := by
  intro f
  induction f with
  | zero =>
   intro l
   induction l with
   | nil => exact fun _ s => ⟨_, _, .nil⟩
   | cons n l ih =>
    intro hl s
    by_cases hn : n = 0
    ·subst hn
     obtain ⟨ys, s', hv⟩ := ih (fun m hm => hl m (List.mem_cons_of_mem _ hm)) s
     exact ⟨_, _, .zero hv⟩
    ·have := (hl n List.mem_cons_self hn).2
     omega
  | succ f ihf =>
   intro l
   induction l with
   | nil => exact fun _ s => ⟨_, _, .nil⟩
   | cons n l ih =>
    intro hl s
    have hl' := fun m hm => hl m (List.mem_cons_of_mem n hm)
    by_cases hn : n = 0
    ·subst hn
     obtain ⟨ys, s', hv⟩ := ih hl' s
     exact ⟨_, _, .zero hv⟩
    ·obtain ⟨h1, h2⟩ := hl n List.mem_cons_self hn
     cases hs : s.getD n false with
     | true =>
      obtain ⟨ys, s', hv⟩ := ih hl' s
      exact ⟨_, _, .old hn hs hv⟩
     | false =>
      obtain ⟨y1, s1, hv1⟩ := ihf (pg n).kids (fun k hk _ => ⟨h.live_kid h1 hk, by have := hrk n h1 k hk; omega⟩) (s.set n true)
      obtain ⟨y2, s2, hv2⟩ := ih hl' s1
      exact ⟨_, _, .new hn hs hv1 hv2⟩
 refine ⟨((List.range σ.blocks).map rk).foldr max 0 + 1, fun l hl s => main _ l (fun n hn h0 => ?_) s⟩
 have hlv := hl n hn h0
 have := le_foldr_max rk (List.range σ.blocks) n (List.mem_range.2 (asked_lt (live_asked hlv)).2.1)
 exact ⟨hlv, by omega⟩
def nz (l : List Nat) : List Nat := l.filter fun n => n != 0
theorem nz_cons (n : Nat) (l : List Nat) (h : n ≠ 0) : nz (n :: l) = n :: nz l := by unfold nz; rw [List.filter_cons, if_pos (by simpa using h)]
theorem nz_zero (l : List Nat) : nz (0 :: l) = nz l := by unfold nz; rw [List.filter_cons, if_neg (by simp)]
theorem getD_setB (c : List Bool) (n m : Nat) (hn : n < c.length) : (c.set n true).getD m false = if m = n then true else c.getD m false := by
 rw [List.getD_eq_getElem?_getD, List.getD_eq_getElem?_getD, List.getElem?_set]
 by_cases h : n = m
 ·subst h; rw [if_pos rfl, if_pos rfl, if_pos hn]; rfl
 ·rw [if_neg h, if_neg (Ne.symm h)]
def seenK (pg : PG) (B k : Nat) (s : List Bool) : Nat := ((List.range B).map fun m => if s.getD m false = true then (pg m).kids.count k else 0).sum
theorem seenK_set (pg : PG) (B k n : Nat) (s : List Bool) (hn : n < B) (hB : s.length = B) (h : s.getD n false = false) : seenK pg B k (s.set n true) = seenK pg B k s + (pg n).kids.count k := by
 unfold seenK
 have := sum_upd (fun m => if (s.set n true).getD m false = true then (pg m).kids.count k else 0) (fun m => if s.getD m false = true then (pg m).kids.count k else 0) n
  (fun j hj => by simp only [getD_setB s n j (by omega), if_neg hj]) B hn
 simp only [getD_setB s n n (by omega), h, if_true] at this
 simpa using this
theorem Vis.sees {pg : PG} {σ : Sp} {E : List Nat} (hI : Inv σ pg E) {f : Nat} {l : List Nat} {s s' : List Bool} {ys : List (Nat × List Bool)} (h : Vis pg f l s ys s') (hs : s.length = σ.blocks) (hl : ∀ n ∈ l, n ≠ 0 → live σ n = true) :
  (∀ m, s.getD m false = true → s'.getD m false = true) ∧ (∀ m, s'.getD m false = true → s.getD m false = true ∨ live σ m = true) ∧ (∀ n ∈ l, n ≠ 0 → s'.getD n false = true) ∧
  (∀ m, s.getD m false = false → s'.getD m false = true → ∀ k ∈ (pg m).kids, s'.getD k false = true) ∧ (∀ k, (ys.map (·.1)).count k + seenK pg σ.blocks k s = (nz l).count k + seenK pg σ.blocks k s') ∧ (∀ p ∈ ys, live σ p.1 = true) := by
 induction h with
 | nil => exact ⟨fun _ h => h, fun _ h => .inl h, fun n hn => (by cases hn), fun m h1 h2 => (by rw [h1] at h2; cases h2), fun k => (by simp [nz]), fun p hp => (by cases hp)⟩
 | zero _ ih =>
  obtain ⟨h1, h2, h3, h4, h5, h6⟩ := ih hs (fun n hn => hl n (List.mem_cons_of_mem _ hn))
  refine ⟨h1, h2, fun n hn h0 => ?_, h4, fun k => by rw [nz_zero]; exact h5 k, h6⟩
  rcases List.mem_cons.1 hn with rfl | hn
  ·exact absurd rfl h0
  ·exact h3 n hn h0
 | @old f n l s s' ys hn0 hsn _ ih =>
  obtain ⟨h1, h2, h3, h4, h5, h6⟩ := ih hs (fun n hn => hl n (List.mem_cons_of_mem _ hn))
  refine ⟨h1, h2, fun m hm h0 => ?_, h4, fun k => ?_, fun p hp => ?_⟩
  ·rcases List.mem_cons.1 hm with rfl | hm
   ·exact h1 _ hsn
   ·exact h3 m hm h0
  ·have := h5 k
   rw [nz_cons _ _ hn0]
   simp only [List.map_cons]
   rw [cnt_cons, cnt_cons]
   omega
  ·rcases List.mem_cons.1 hp with rfl | hp
   ·exact hl _ List.mem_cons_self hn0
   ·exact h6 p hp
 | @new f n l s s1 s2 y1 y2 hn0 hsn hv1 _ ih1 ih2 =>
  have hln := hl n List.mem_cons_self hn0
  have hnb := (asked_lt (live_asked hln)).2.1
  have hl1 : (s.set n true).length = σ.blocks := by rw [List.length_set]; exact hs
  have hl2 := hv1.len.1.trans hl1
  obtain ⟨a1, a2, a3, a4, a5, a6⟩ := ih1 hl1 (fun k hk _ => hI.live_kid hln hk)
  obtain ⟨b1, b2, b3, b4, b5, b6⟩ := ih2 hl2 (fun n hn => hl n (List.mem_cons_of_mem _ hn))
  have gs := fun m => getD_setB s n m (by omega)
  have kid0 : ∀ k ∈ (pg n).kids, k ≠ 0 := fun k hk h0 => by
   have := (asked_lt (live_asked (hI.live_kid hln hk))).1
   omega
  have up : ∀ m, s.getD m false = true → s1.getD m false = true := fun m hm => a1 m (by rw [gs]; split; rfl; exact hm)
  have hn1 : s1.getD n false = true := a1 n (by rw [gs, if_pos rfl])
  refine ⟨fun m hm => b1 m (up m hm), fun m hm => ?_, fun m hm h0 => ?_, fun m hm hm' k hk => ?_, fun k => ?_, fun p hp => ?_⟩
  ·rcases b2 m hm with h | h
   ·rcases a2 m h with h | h
    ·rw [gs] at h
     split at h
     ·rename_i e; subst e; exact .inr hln
     ·exact .inl h
    ·exact .inr h
   ·exact .inr h
  ·rcases List.mem_cons.1 hm with rfl | hm
   ·exact b1 _ hn1
   ·exact b3 m hm h0
  ·cases h1 : s1.getD m false with
   | false => exact b4 m h1 hm' k hk
   | true =>
    by_cases e : m = n
    ·subst e; exact b1 k (a3 k hk (kid0 k hk))
    ·exact b1 k (a4 m (by rw [gs, if_neg e]; exact hm) h1 k hk)
  ·have e1 := a5 k
   have e2 := b5 k
   have e3 := seenK_set pg σ.blocks k n s hnb hs hsn
   have e4 : (nz (pg n).kids) = (pg n).kids := List.filter_eq_self.2 fun k hk => by simpa using kid0 k hk
   rw [e4] at e1
   rw [nz_cons _ _ hn0]
   simp only [List.map_cons, List.map_append]
   rw [cnt_cons, cnt_cons, List.count_append]
   omega
  ·rcases List.mem_cons.1 hp with rfl | hp
   ·exact hln
   ·rcases List.mem_append.1 hp with hp | hp
    ·exact a6 p hp
    ·exact b6 p hp
theorem Vis.counts {pg : PG} {σ : Sp} {E : List Nat} (hI : Inv σ pg E) {f : Nat} {l : List Nat} {s' : List Bool} {ys : List (Nat × List Bool)} (h : Vis pg f l (List.replicate σ.blocks false) ys s') (hE : List.Perm (nz l) E) :
  (∀ n, spAsked σ n = true → (ys.map (·.1)).count n = σ.now.getD n 0) ∧ (∀ p ∈ ys, live σ p.1 = true) := by
 have hl : ∀ n ∈ l, n ≠ 0 → live σ n = true := fun n hn h0 => hI.live_ext (hE.mem_iff.1 (by unfold nz; rw [List.mem_filter]; exact ⟨hn, by simpa using h0⟩))
 have rep : ∀ m, (List.replicate σ.blocks false).getD m false = false := fun m => by
  rw [List.getD_eq_getElem?_getD, List.getElem?_replicate]; split <;> rfl
 obtain ⟨h1, h2, h3, h4, h5, h6⟩ := h.sees hI (by simp) hl
 refine ⟨fun n hn => ?_, h6⟩
 have seen : ∀ m, s'.getD m false = live σ m := by
  intro m
  cases hm : live σ m with
  | true =>
   have r := hI.reach_live hm
   clear hm
   induction r with
   | root hn =>
    have := (hE.mem_iff).2 hn
    unfold nz at this
    rw [List.mem_filter] at this
    exact h3 _ this.1 (by simpa using this.2)
   | kid _ hk ih => exact h4 _ (rep _) ih _ hk
  | false =>
   cases hs : s'.getD m false with
   | false => rfl
   | true =>
    rcases h2 m hs with h | h
    ·rw [rep] at h; cases h
    ·rw [hm] at h; cases h
 have e1 := h5 n
 have e2 : seenK pg σ.blocks n (List.replicate σ.blocks false) = 0 := by
  unfold seenK
  have : ((List.range σ.blocks).map fun m => if (List.replicate σ.blocks false).getD m false = true then (pg m).kids.count n else 0) = (List.range σ.blocks).map fun _ => 0 :=
   List.map_congr_left fun m _ => by rw [rep]; rfl
  rw [this]
  have := sum_bound (fun _ => 0) 0 (fun _ => Nat.le_refl 0) σ.blocks
  omega
 have e3 : seenK pg σ.blocks n s' = (kidsAll σ pg).count n := by
  rw [kids_count]
  unfold seenK
  congr 1
  refine List.map_congr_left fun m _ => ?_
  rw [seen]
  unfold kidsOf
  split <;> rfl
 rw [e2, e3, Nat.add_zero] at e1
 rw [e1, hI.cnt n hn, List.count_append, hE.count_eq]
end Go.Proofs.YtfoffehokhkohaaGreat
set_option maxRecDepth 20000
namespace Go.Proofs.YtfoffehokhkohaaGreat
open Go
structure VQ where
 be : Nat
 b3 : Nat
 b4 : Nat
 b5 : Nat
 b7 : Nat
 b8 : Nat
 ra : Option Addr
 rd : Option Addr
 sa : Option Addr
 N : Nat
 rs : Nat
 off : Nat
 len : Nat
 ext : Nat
 L : List Nat
def vL (b db : Nat) (σ : Sp) (q : SpQ) (v : VQ) (s : List Bool) : List Ch :=
 appL (spL b db σ q) [.arr v.rd (fun _ => v.N) (fun _ => v.rs) [.nat .u32 fun _ => v.L] false, .box v.be 31 [.int .i64 fun _ => 0] true, .box v.b3 24 [.bp 0 0] true,
  .box v.b4 41 [.sl 5 (fun _ => v.ra) (fun _ => v.off) (fun _ => v.len) (fun _ => v.ext)] true, .box v.b5 191 [.bp 6 0] true, .arr v.sa (fun _ => σ.blocks) (fun _ => 0) [.bool fun _ => s] true,
  .box v.b7 243 [.sl 10 (fun _ => v.sa) (fun _ => 0) (fun _ => σ.blocks) (fun _ => 0)] true, .box v.b8 244 [.fn (.func 162) [] [.bp 7 0, .bp 9 0, .bp 11 0, .bp 12 0]] true]
def YOk (lid b db : Nat) (σ : Sp) (q : SpQ) (v : VQ) (Y : Nat → RP) (Z : RP) (k : Nat) (p : Nat × List Bool) : Prop :=
 YSpec Tryz.prog lid (appL (vL b db σ q v p.2) [.res fun _ => Y k]) [.int .u32 fun _ => toI p.1]
  (fun x hp => (x = .tt ∧ hp = appL (vL b db σ q v p.2) [.res fun _ => Y (k + 1)]) ∨ (x = .ff ∧ hp = appL (vL b db σ q v p.2) [.res fun _ => Z]))
set_option maxHeartbeats 2000000 in
theorem visit_spec (b db lid : Nat) (σ : Sp) (q : SpQ) (v : VQ) (pg : PG) (E : List Nat) (hI : Inv σ pg E) (Y : Nat → RP) (Z : RP) :
  ∀ (f : Nat) (l : List Nat) (s s' : List Bool) (ys : List (Nat × List Bool)), Vis pg f l s ys s' → s.length = σ.blocks → (∀ n ∈ l, n ≠ 0 → live σ n = true) →
  ∀ (k0 M sp off len ext : Nat) (a ad : Option Addr) (kk : List Nat), kk.length = M → off + len ≤ M → len < 1000000000 → l = subl kk off len → (∀ i p, ys[i]? = some p → YOk lid b db σ q v Y Z (k0 + i) p) →
  FnSpec Tryz.prog 162 (appL (vL b db σ q v s) [.res fun _ => Y k0, .arr ad (fun _ => M) (fun _ => sp) [.nat .u32 fun _ => kk] false]) [.fn (.yield lid) [] [], .sl 14 (fun _ => a) (fun _ => off) (fun _ => len) (fun _ => ext), .bp 7 0, .bp 9 0, .bp 11 0, .bp 12 0]
   (fun x hp => (x = .tt ∧ hp = appL (vL b db σ q v s') [.res fun _ => Y (k0 + ys.length), .arr ad (fun _ => M) (fun _ => sp) [.nat .u32 fun _ => kk] false]) ∨
    (x = .ff ∧ ∃ p ∈ ys, hp = appL (vL b db σ q v p.2) [.res fun _ => Z, .arr ad (fun _ => M) (fun _ => sp) [.nat .u32 fun _ => kk] false])) := by
 intro f
 induction f using Nat.strongRecOn with
 | _ f IH =>
 intro l s s' ys hV hs hlv k0 M sp off len ext a ad kk hkk hoff hlen hl hY
 have hll : l.length = len := by rw [hl, subl_length _ _ _ (by omega)]
 have hb4 := hI.ok.b4
 refine spec_cl mixed F162 rfl rfl rfl (fun Γ hΓ hb => ?_)
 cbv
 refine loopJ (α := Nat × List Bool × List (Nat × List Bool) × Nat)
  (fun (i, si, yr, k) => i ≤ len ∧ Vis pg f (l.drop i) si yr s' ∧ si.length = σ.blocks ∧ k + yr.length = k0 + ys.length ∧ (∀ j p, yr[j]? = some p → YOk lid b db σ q v Y Z (k + j) p) ∧ ∀ p ∈ yr, p ∈ ys)
  (fun (i, si, _, k) => ⟨50, [(0, .fn (.yield lid) [] []), (2, .bp 7 0), (3, .bp 9 0), (4, .bp 11 0), (5, .bp 12 0), (13, .sl 14 (fun _ => a) (fun _ => off) (fun _ => len) (fun _ => ext)), (14, .int .i64 fun _ => toI len), (15, .int .i64 fun _ => toI i)],
   appL (vL b db σ q v si) [.res fun _ => Y k, .arr ad (fun _ => M) (fun _ => sp) [.nat .u32 fun _ => kk] false], []⟩)
  (fun (i, _, _, _) => len - i) (0, s, ys, k0) ⟨Nat.zero_le _, hV, hs, rfl, hY, fun _ h => h⟩ (sub2 [0, 1, 2, 3, 4, 5, 6, 7, 8, 9, 10, 11, 12, 13, 14] 15 hb rfl rfl rfl rfl rfl rfl rfl rfl ?_) ?_
 ·cbv
  exact rf
 rintro ⟨i, si, yr, k⟩ hJ
 have hJ : i ≤ len ∧ Vis pg f (l.drop i) si yr s' ∧ si.length = σ.blocks ∧ k + yr.length = k0 + ys.length ∧ (∀ j p, yr[j]? = some p → YOk lid b db σ q v Y Z (k + j) p) ∧ ∀ p ∈ yr, p ∈ ys := hJ
 obtain ⟨hi, hVi, hsi, hk, hYi, hsub⟩ := hJ
 cbv
 refine ⟨fun hc => ?_, fun hc => ?_⟩
 ·replace hc := toI_lt hc
  obtain ⟨n, hn⟩ : ∃ n, kk.getD (off + i) 0 = n := ⟨_, rfl⟩
  have hdr : l.drop i = n :: l.drop (i + 1) := by
   rw [List.drop_eq_getElem_cons (by omega)]
   congr 1
   rw [← hn]
   have e1 : l[i]? = kk[off + i]? := by
    rw [hl]; unfold subl
    rw [List.getElem?_take, if_pos hc, List.getElem?_drop]
   rw [List.getD_eq_getElem?_getD, ← e1, List.getElem?_eq_getElem (by omega)]; rfl
  rw [hdr] at hVi
  have hnl : n ∈ l := List.mem_of_mem_drop (i := i) (by rw [hdr]; exact List.mem_cons_self)
  have e0 : off + (toI i).toNat = off + i := by rw [toI_toNat]
  cbv
  repeat ((first | refine VC.mk rf ?_ | refine ADD.mk rf ?_); cbv)
  rw [e0, hn]
  by_cases hz : n = 0
  ·subst hz
   refine .yes (eqT rfl) ?_
   cbv
   refine .mk rf ?_
   cbv
   cases hVi with
   | zero hv =>
    refine ⟨(i + 1, si, yr, k), ⟨by omega, hv, hsi, hk, hYi, hsub⟩, show len - (i + 1) < len - i by omega, sub2 [0, 1, 2, 3, 4, 5, 6, 7, 8, 9, 10, 11, 12, 13, 14] 15 hb rfl rfl rfl rfl rfl rfl rfl rfl ?_⟩
    cbv
    exact rf
   | old h0 => exact absurd rfl h0
   | new h0 => exact absurd rfl h0
  ·refine .no (eqF om) ?_
   have hln := hlv n hnl hz
   have hnb := (asked_lt (live_asked hln)).2.1
   cbv
   refine cP hΓ (space_Get b db n σ q (pg n) hI.ok (live_asked hln) (live_now hln) (hI.has n hln)) [0, 1, 2, 3, 4] ?_
   rintro x hp' ⟨ka, kad, ke, rfl, rfl⟩
   refine ⟨rfl, ?_⟩
   cbv
   intro b11
   cbv
   refine .no (neF rfl) ?_
   cbv
   obtain ⟨yt, hyt⟩ : ∃ yt, yr = (n, si) :: yt := by
    cases hVi with
    | zero => exact absurd rfl hz
    | old => exact ⟨_, rfl⟩
    | new => exact ⟨_, rfl⟩
   refine callV_byE hΓ (hYi 0 (n, si) (by rw [hyt]; rfl)) [0, 1, 2, 3, 4, 5, 6, 7, 8, 9, 10, 11, 12, 13] (by simp) ⟨⟨_, rfl, .inl rfl⟩, ⟨_, rfl, .inl rfl⟩, ⟨_, rfl, .inl rfl⟩, ⟨_, rfl, .inl rfl⟩, ⟨_, rfl, .inl rfl⟩, ⟨_, rfl, .inr ⟨rfl, rfl⟩⟩, ⟨_, rfl, .inl rfl⟩, ⟨_, rfl, .inl rfl⟩, ⟨_, rfl, .inl rfl⟩, ⟨_, rfl, .inl rfl⟩, ⟨_, rfl, .inl rfl⟩, ⟨_, rfl, .inl rfl⟩, ⟨_, rfl, .inl rfl⟩, ⟨_, rfl, .inl rfl⟩, trivial⟩ (by cbv; exact rf) ?_
   rintro x hp' (⟨rfl, rfl⟩ | ⟨rfl, rfl⟩)
   ·refine ⟨rfl, ?_⟩
    cbv
    repeat ((first | refine VC.mk rf ?_ | refine ADD.mk rf ?_); cbv)
    have en : (0 : Nat) + (toI n).toNat = n := by rw [toI_toNat]; omega
    cases hVi with
    | zero => exact absurd rfl hz
    | @old _ _ _ _ _ yt h0 hsn hv =>
     refine .yes (by rw [en]; exact hsn) ?_
     cbv
     refine .mk rf ?_
     cbv
     refine ⟨(i + 1, si, yt, k + 1), ⟨by omega, hv, hsi, by rw [← hk]; simp; omega, fun j p hj => by have := hYi (j + 1) p hj; rw [show k + (j + 1) = k + 1 + j by omega] at this; exact this, fun p hp => hsub p (List.mem_cons_of_mem _ hp)⟩, show len - (i + 1) < len - i by omega, sub2 [0, 1, 2, 3, 4, 5, 6, 7, 8, 9, 10, 11, 12, 13, 14] 15 hb rfl rfl rfl rfl rfl rfl rfl rfl ?_⟩
     cbv
     exact rf
    | @new f' _ _ _ s1 _ y1 y2 h0 hsn hv1 hv2 =>
     refine .no (by rw [en]; exact hsn) ?_
     cbv
     repeat ((first | refine VC.mk rf ?_ | refine ADD.mk rf ?_); cbv)
     rw [en]
     obtain ⟨s0, hs0⟩ : ∃ s0, s0 = si.set n true := ⟨_, rfl⟩
     rw [← hs0]
     rw [← hs0] at hv1
     have hl0 : s0.length = σ.blocks := by rw [hs0, List.length_set]; exact hsi
     have hpk := (hI.has n hln).1.k
     have hi1 := IH f' (by omega) (pg n).kids s0 s1 y1 hv1 hl0 (fun m hm _ => hI.live_kid hln hm) (k + 1) (pg n).kids.length ke 0 (pg n).kids.length ke ka kad (pg n).kids rfl (by omega) (by omega) (by unfold subl; rw [List.drop_zero, List.take_length])
      (fun j p hj => by
       have := hYi (j + 1) p (by rw [List.getElem?_cons_succ, List.getElem?_append_left (List.getElem?_eq_some_iff.1 hj).1]; exact hj)
       rw [show k + (j + 1) = k + 1 + j by omega] at this; exact this)
     refine cP hΓ (hi1) [0, 1, 2, 3, 4, 5, 6, 7, 8, 9, 10, 11, 12, 13, 15] ?_
     rintro x hp' (⟨rfl, rfl⟩ | ⟨rfl, p2, hp2, rfl⟩)
     refine ⟨rfl, ?_⟩
     cbv
     ·obtain ⟨kn, hkn⟩ : ∃ kn, kn = k + 1 + y1.length := ⟨_, rfl⟩
      rw [← hkn]
      refine .mk rf ?_
      cbv
      refine ⟨(i + 1, s1, y2, kn), ⟨by omega, hv2, hv1.len.1.trans hl0, by rw [← hk, hkn]; simp; omega, fun j p hj => by
       have := hYi (y1.length + j + 1) p (by rw [List.getElem?_cons_succ, List.getElem?_append_right (by omega), Nat.add_sub_cancel_left]; exact hj)
       rw [show k + (y1.length + j + 1) = kn + j by omega] at this; exact this, fun p hp => hsub p (List.mem_cons_of_mem _ (List.mem_append_right _ hp))⟩, show len - (i + 1) < len - i by omega, sub2 [0, 1, 2, 3, 4, 5, 6, 7, 8, 9, 10, 11, 12, 13, 14] 15 hb rfl rfl rfl rfl rfl rfl rfl rfl ?_⟩
      cbv
      exact rf
     ·refine ⟨rfl, ?_⟩
      cbv
      exact Cl.tk 15 hb rfl rfl rfl (.inr ⟨rfl, p2, hsub p2 (List.mem_cons_of_mem _ (List.mem_append_left _ hp2)), rfl⟩)
   ·refine ⟨rfl, ?_⟩
    cbv
    refine Cl.tk 15 hb rfl rfl rfl (.inr ⟨rfl, (n, si), hsub _ (by rw [hyt]; exact List.mem_cons_self), rfl⟩)
 ·replace hc := toI_nlt hc
  have : i = len := by omega
  rw [List.drop_eq_nil_of_le (by omega)] at hVi
  cases hVi
  cbv
  refine Cl.same rfl (.inl ⟨rfl, ?_⟩)
  rw [← hk]
  rfl
theorem callP_dup {Γ : Ctx} {f : FuncId} {args args' : List SV} {hp : List Ch} {K : KV} (k : Nat) {ad : Option Addr} {n sp : Th Nat} {cs : List Col} (hk : hp[k]? = some (.arr ad n sp cs false))
  (he : SV.denL (bases (hp ++ [.arr ad n sp cs false])) args' = SV.denL (bases hp) args) (h : CallP Γ f args' (hp ++ [.arr ad n sp cs false]) K) : CallP Γ f args hp K := by
 refine ⟨fun w hd => ?_⟩
 have hd' : DenH Γ (hp ++ [.arr ad n sp cs false]) w := by
  refine hd.push0 ?_
  obtain ⟨S, d⟩ := hd
  have h1 := d.ch k _ hk
  have hS : S k = fun _ => False := by
   funext x; apply propext
   refine ⟨fun hx => ?_, fun h => h.elim⟩
   cases ad with
   | none => exact h1.2.2.2 x hx
   | some ad => exact h1.2.2.2.2.1 x hx
  rw [hS] at h1
  exact h1
 have h1 := h.h w hd'
 rw [he] at h1
 refine h1.mono ?_
 rintro e w' ⟨x, hp', h2, h3, h4, ⟨bs, h5⟩, h6⟩
 exact ⟨x, hp', h2, h3, h4, ⟨[_] ++ bs, by rw [h5, bases_append, List.append_assoc]; rfl⟩, h6⟩
def seenAt (ys : List (Nat × List Bool)) (s' : List Bool) (k : Nat) : List Bool := ((ys.map (·.2))[k]?).getD s'
theorem seenAt_end (ys : List (Nat × List Bool)) (s' : List Bool) : seenAt ys s' ys.length = s' := by
 unfold seenAt; rw [List.getElem?_eq_none (by simp)]; rfl
theorem seenAt_at {ys : List (Nat × List Bool)} {s' : List Bool} {k : Nat} {p : Nat × List Bool} (h : ys[k]? = some p) : seenAt ys s' k = p.2 := by
 unfold seenAt; rw [List.getElem?_map, h]; rfl
theorem Vis.first {pg : PG} {f : Nat} {l : List Nat} {s s' : List Bool} {ys : List (Nat × List Bool)} (h : Vis pg f l s ys s') : seenAt ys s' 0 = s := by
 induction h with
 | nil => rfl
 | zero _ ih => exact ih
 | old => rfl
 | new => rfl
theorem refs_range (b db : Nat) (σ : Sp) (q : SpQ) (v : VQ) (pg : PG) (E : List Nat) (hI : Inv σ pg E) (f : Nat) (l : List Nat) (s s' : List Bool) (ys : List (Nat × List Bool)) (hV : Vis pg f l s ys s') (hs : s.length = σ.blocks)
  (hlv : ∀ n ∈ l, n ≠ 0 → live σ n = true) (hL : v.L.length = v.N) (hof : v.off + v.len ≤ v.N) (hln : v.len < 1000000000) (hl : l = subl v.L v.off v.len) :
  ISpecF Tryz.prog 163 (fun k => vL b db σ q v (seenAt ys s' k)) [] [.bp 12 0, .bp 8 0] (ys.map fun p => [.int .u32 fun _ => toI p.1]) := by
 refine ⟨let ⟨fn, c, h1, h2, h3, _⟩ := F163.h; ⟨fn, c, h1, h2, h3⟩, fun _ => rfl, fun _ => rfl, ?_, rfl, rfl, fun lo Y Z hY => ?_⟩
 ·intro xs hx
  obtain ⟨k, _, rfl⟩ := List.mem_map.1 hx
  rfl
 have hsp := visit_spec b db lo σ q v pg E hI Y Z f l s s' ys hV hs hlv 0 v.N v.rs v.off v.len v.ext v.ra v.rd v.L hL hof hln hl (fun i p hp => by
  have h1 := hY i _ (by rw [List.getElem?_map, hp]; rfl)
  rw [seenAt_at hp] at h1
  rw [Nat.zero_add]
  exact h1)
 rw [List.length_map, seenAt_end, hV.first, Nat.zero_add] at *
 refine spec_cl mixed F163 rfl rfl rfl (fun Γ hΓ hb => ?_)
 cbv
 refine callP_dup (args' := [.fn (.yield lo) [] [], .sl 14 (fun _ => v.ra) (fun _ => v.off) (fun _ => v.len) (fun _ => v.ext), .bp 7 0, .bp 9 0, .bp 11 0, .bp 12 0]) 5 rfl rfl ?_
 refine cP hΓ (hsp) [0, 1, 2, 3, 4, 5, 6, 7, 8, 9, 10, 11, 12, 13, 14] ?_
 rintro x hp' (⟨rfl, rfl⟩ | ⟨rfl, p2, hp2, rfl⟩)
 refine ⟨rfl, ?_⟩
 cbv
 ·refine Cl.tk 14 hb rfl rfl rfl (.inl rfl)
 ·refine ⟨rfl, ?_⟩
  cbv
  obtain ⟨i, hi⟩ := List.mem_iff_getElem?.1 hp2
  refine Cl.tk 14 hb rfl rfl rfl (.inr ⟨i, ?_⟩)
  rw [seenAt_at hi]
  rfl
theorem space_refs (b db be N rs off len ext : Nat) (ra rd : Option Addr) (σ : Sp) (q : SpQ) (L : List Nat) (h : SpOk σ) :
  FnSpec Tryz.prog 112 (appL (spL b db σ q) [.arr rd (fun _ => N) (fun _ => rs) [.nat .u32 fun _ => L] false, .box be 31 [.int .i64 fun _ => 0] true]) [.bp 0 0, .sl 5 (fun _ => ra) (fun _ => off) (fun _ => len) (fun _ => ext), .bp 6 0]
   (fun x hp => ∃ (b3 b4 b5 b7 b8 : Nat) (sa : Option Addr), x = .fn (.func 163) [] [.bp 12 0, .bp 8 0] ∧ hp = vL b db σ q ⟨be, b3, b4, b5, b7, b8, ra, rd, sa, N, rs, off, len, ext, L⟩ (List.replicate σ.blocks false)) := by
 have hb4 := h.b4
 refine spec_cl mixed F112 rfl rfl rfl (fun Γ hΓ hb => ?_)
 cbv
 intro b3
 cbv
 intro b4
 cbv
 intro b5
 cbv
 refine VC.mk rf fun bs => ?_
 cbv
 intro b7
 cbv
 intro b8
 cbv
 rw [toI_toNat, Nat.sub_self]
 exact Cl.same rfl ⟨b3, b4, b5, b7, b8, _, rfl, rfl⟩
end Go.Proofs.YtfoffehokhkohaaGreat
set_option maxRecDepth 20000
namespace Go.Proofs.YtfoffehokhkohaaGreat
open Go
def renD (σ : List Nat) (d : Fn × List SV × List SV) : Fn × List SV × List SV := (d.1, SV.renL σ d.2.1, SV.renL σ d.2.2)
theorem subD {Γ : Ctx} {st st' : St} (σ : List Nat) (k : Nat) (hk : Γ.b0.length = k) (hup : isUp 0 k σ = true) (hkl : Nat.ble k st'.hp.length = true) (hnd : onceG σ st'.hp = true) (hn : st'.n = st.n) (hdf : st.df = st'.df.map (renD σ)) (hdf' : (st'.df.all fun d => SV.hsL st'.hp.length d.2.1 && SV.hsL st'.hp.length d.2.2) = true)
  (hhs : hsT st'.hp.length st'.tm = true) (hhc : hsCL st'.hp.length st'.hp = true) (h : eqCs st.hp σ σ st'.hp ∧ eqTs st.tm σ st'.tm) : Sub Γ st st' := by
 intro a w hd
 obtain ⟨n, tm, hp, df⟩ := st
 obtain ⟨n', tm', hp', df'⟩ := st'
 have h1 := sub_by (Γ := Γ) (st := ⟨n, tm, hp, []⟩) (st' := ⟨n', tm', hp', []⟩) σ k hk hup hkl hnd hn rfl rfl hhs hhc h.1 h.2 { a with defers := [] } w ⟨⟨hd.t.size, rfl, by simp, hd.t.tm⟩, hd.h⟩
 obtain ⟨hlen, hat⟩ := eqCs_ok h.1
 have hren : RenOk σ hp'.length (bases hp') (bases hp) := by
  intro i hi
  obtain ⟨h, d, h1, h2, h3⟩ := hat i hp'[i] (by simp [hi])
  have e : nthD σ i = h := by simp [nthD, nth_eq, h1]
  rw [e]
  refine ⟨by simpa using (List.getElem?_eq_some_iff.1 h2).1, ?_⟩
  have := eqC_base h3
  rw [ren_base] at this
  simp [bases, h2, hi, this]
 have hall : ∀ d ∈ df', SV.hsL hp'.length d.2.1 = true ∧ SV.hsL hp'.length d.2.2 = true := fun d hd => by
  have := List.all_eq_true.1 hdf' d hd
  simpa using this
 refine ⟨⟨h1.t.size, ?_, hall, h1.t.tm⟩, h1.h⟩
 have hdf : df = df'.map (renD σ) := hdf
 rw [hd.t.df, hdf, List.map_map]
 refine List.map_congr_left fun d hm => ?_
 obtain ⟨h3, h4⟩ := hall d hm
 have e1 := (denL_ren hren d.2.1 h3).1
 have e2 := (denL_ren hren d.2.2 h4).1
 show denD (bases hp) (renD σ d) = denD (bases hp') d
 unfold denD renD
 rw [e1, e2]
theorem walk_out {σ : Sp} {pg : PG} {E : List Nat} (hI : Inv σ pg E) (ns : List Nat) (hn : ∀ n ∈ ns, live σ n = true) (hc : ∀ n, spAsked σ n = true → ns.count n = σ.now.getD n 0) (n : Nat) : ns.count n ≤ 65535 := by
 by_cases h : spAsked σ n = true
 ·rw [hc n h]
  have := hI.ok.now.getD n
  omega
 ·rw [List.count_eq_zero.2 fun hm => h (live_asked (hn n hm))]
  omega
def OutAt (B : Nat) (ns : List Nat) (o : List Int) : Prop := o.length = B ∧ ∀ m, o.getD m 0 = toI (ns.count m)
theorem getD_setI (c : List Int) (n m : Nat) (x : Int) (hn : n < c.length) : (c.set n x).getD m 0 = if m = n then x else c.getD m 0 := by
 rw [List.getD_eq_getElem?_getD, List.getD_eq_getElem?_getD, List.getElem?_set]
 by_cases h : n = m
 ·subst h; rw [if_pos rfl, if_pos rfl, if_pos hn]; rfl
 ·rw [if_neg h, if_neg (Ne.symm h)]
theorem OutAt.zero (B : Nat) : OutAt B [] (List.replicate B 0) := by
 refine ⟨by simp, fun m => ?_⟩
 rw [List.getD_eq_getElem?_getD, List.getElem?_replicate]
 split <;> rfl
theorem OutAt.step {B : Nat} {ns : List Nat} {k n : Nat} {o : List Int} (h : OutAt B (ns.take k) o) (hk : ns[k]? = some n) (hn : n < B) : OutAt B (ns.take (k + 1)) (o.set n (o.getD n 0 + 1)) := by
 refine ⟨by rw [List.length_set]; exact h.1, fun m => ?_⟩
 have e : ns.take (k + 1) = ns.take k ++ [n] := by rw [List.take_add_one, hk]; rfl
 have e2 : (ns.take (k + 1)).count m = (ns.take k).count m + if m = n then 1 else 0 := by
  rw [e, List.count_append, cnt_cons]; simp
 rw [getD_setI _ _ _ _ (by rw [h.1]; exact hn), e2]
 split
 ·rename_i he; subst he; rw [h.2]; simp only [toI]; omega
 ·rw [h.2]; rfl
def OwnAt (B : Nat) (ns sp : List Nat) (o : List Int) : Prop := o.length = B ∧ ∀ m, m < B → o.getD m 0 = if m < 2 ∨ m ∈ sp then 1 else toI (ns.count m)
theorem OwnAt.start {B : Nat} {ns : List Nat} {o : List Int} (h : OutAt B ns o) (hB : 2 ≤ B) : OwnAt B ns [] ((o.set 0 1).set 1 1) := by
 refine ⟨by rw [List.length_set, List.length_set]; exact h.1, fun m _ => ?_⟩
 have hl := h.1
 rw [getD_setI _ _ _ _ (by rw [List.length_set]; omega), getD_setI _ _ _ _ (by omega), h.2]
 by_cases h0 : m < 2
 ·have hh : m < 2 ∨ m ∈ ([] : List Nat) := .inl h0
  rw [if_pos hh]
  by_cases h1 : m = 1
  ·rw [if_pos h1]
  ·rw [if_neg h1, if_pos (by omega)]
 ·rw [if_neg (by omega), if_neg (by omega), if_neg (by simp [h0])]
theorem OwnAt.step {B : Nat} {ns sp : List Nat} {i n : Nat} {o : List Int} (h : OwnAt B ns (sp.take i) o) (hi : sp[i]? = some n) (hn : n < B) : OwnAt B ns (sp.take (i + 1)) (o.set n 1) := by
 refine ⟨by rw [List.length_set]; exact h.1, fun m hm => ?_⟩
 have hl := h.1
 have e : sp.take (i + 1) = sp.take i ++ [n] := by rw [List.take_add_one, hi]; rfl
 rw [getD_setI _ _ _ _ (by omega), e, h.2 m hm]
 by_cases he : m = n
 ·subst he; rw [if_pos rfl, if_pos (.inr (by simp))]
 ·rw [if_neg he]
  by_cases hc : m < 2 ∨ m ∈ sp.take i
  ·rw [if_pos hc, if_pos (hc.elim .inl fun h => .inr (List.mem_append_left _ h))]
  ·rw [if_neg hc, if_neg (fun hh => hc (hh.elim .inl fun h => .inr ((List.mem_append.1 h).elim id fun h => absurd (List.mem_singleton.1 h) he)))]
theorem OwnAt.fin {σ : Sp} {pg : PG} {E : List Nat} (hI : Inv σ pg E) {ns : List Nat} {o : List Int} (hc : ∀ n, spAsked σ n = true → ns.count n = σ.now.getD n 0) (h : OwnAt σ.blocks ns σ.sup o) (hnl : σ.now.length = σ.blocks) : o = σ.now.map toI := by
 apply List.ext_getElem?
 intro m
 by_cases hm : m < σ.blocks
 ·have h1 := h.2 m hm
  rw [List.getD_eq_getElem?_getD, List.getElem?_eq_getElem (by rw [h.1]; exact hm)] at h1
  rw [List.getElem?_eq_getElem (by rw [h.1]; exact hm), List.getElem?_map, List.getElem?_eq_getElem (by omega)]
  simp only [Option.map_some, Option.some.injEq, Option.getD_some] at h1 ⊢
  rw [h1]
  have hg : σ.now[m] = σ.now.getD m 0 := by rw [List.getD_eq_getElem?_getD, List.getElem?_eq_getElem (by omega)]; rfl
  cases ha : spAsked σ m with
  | true =>
   obtain ⟨a1, a2, a3⟩ := asked_lt ha
   rw [if_neg (by simp [a3]; omega), hc m ha, hg]
  | false =>
   rw [hg, hI.own m hm ha]
   rw [if_pos]
   ·rfl
   ·unfold spAsked at ha
    simp only [Bool.and_eq_false_iff, decide_eq_false_iff_not] at ha
    by_cases h2 : m < 2
    ·exact .inl h2
    ·refine .inr ?_
     simp only [Bool.not_eq_false', List.contains_iff_mem] at ha
     rcases ha with h | h | h
     ·omega
     ·omega
     ·simpa using h
 ·rw [List.getElem?_eq_none (by rw [h.1]; omega), List.getElem?_eq_none (by rw [List.length_map]; omega)]
set_option maxHeartbeats 1000000 in
theorem space_Walk (b db N rs off len ext : Nat) (ra rd : Option Addr) (σ : Sp) (q : SpQ) (L : List Nat) (pg : PG) (E : List Nat) (hI : Inv σ pg E) (hL : L.length = N) (hof : off + len ≤ N) (hln : len < 1000000000) (hE : List.Perm (nz (subl L off len)) E) :
  FnSpec Tryz.prog 61 (appL (spL b db σ q) [.arr rd (fun _ => N) (fun _ => rs) [.nat .u32 fun _ => L] false]) [.bp 0 0, .sl 5 (fun _ => ra) (fun _ => off) (fun _ => len) (fun _ => ext)]
   (fun x hp => ∃ bo : Nat, x = .tup [.sl 6 (fun _ => some ⟨bo, 0, none⟩) (fun _ => 0) (fun _ => σ.blocks) (fun _ => 0), .int .i64 fun _ => 0] ∧
    hp = appL (spL b db σ q) [.arr rd (fun _ => N) (fun _ => rs) [.nat .u32 fun _ => L] false, .arr (some ⟨bo, 0, none⟩) (fun _ => σ.blocks) (fun _ => 0) [.int .i64 fun _ => σ.now.map toI] true]) := by
 have hb4 := hI.ok.b4
 have hs4 := hI.ok.sup4
 obtain ⟨l, hl⟩ : ∃ l, l = subl L off len := ⟨_, rfl⟩
 rw [← hl] at hE
 have hlv : ∀ n ∈ l, n ≠ 0 → live σ n = true := fun n hn h0 => hI.live_ext (hE.mem_iff.1 (List.mem_filter.2 ⟨hn, by simpa using h0⟩))
 obtain ⟨f, hf⟩ := Vis.ex hI
 obtain ⟨ys, s', hV⟩ := hf l hlv (List.replicate σ.blocks false)
 have hlive := (hV.sees hI (by simp) hlv).2.2.2.2.2
 have hcnt := hV.counts hI hE
 have his := fun v h1 h2 h3 h4 => refs_range b db σ q v pg E hI f l _ s' ys hV (by simp) hlv h1 h2 h3 h4
 have hs0 := hV.first
 have hr := fun be => space_refs b db be N rs off len ext ra rd σ q L hI.ok
 rw [← hs0] at hr
 obtain ⟨ns, hns⟩ : ∃ ns, ns = ys.map (·.1) := ⟨_, rfl⟩
 have hnl : ∀ (k : Nat) (n : Nat), ns[k]? = some n → live σ n = true := by
  intro k n hk
  have hm := List.mem_of_getElem? hk
  rw [hns] at hm
  obtain ⟨p, hp, rfl⟩ := List.mem_map.1 hm
  exact hlive p hp
 have hxs : ∀ (k : Nat) xs, (ys.map fun p => [SV.int .u32 fun _ => toI p.1])[k]? = some xs → ∃ n : Nat, xs = [.int .u32 fun _ => toI n] ∧ ns[k]? = some n := by
  intro k xs hk
  rw [List.getElem?_map] at hk
  cases hy : ys[k]? with
  | none => rw [hy] at hk; cases hk
  | some p => rw [hy] at hk; cases hk; exact ⟨p.1, rfl, by rw [hns, List.getElem?_map, hy]; rfl⟩
 have hyl : (ys.map fun p => [SV.int .u32 fun _ => toI p.1]).length = ns.length := by rw [hns]; simp
 have hc1 : ∀ n, spAsked σ n = true → ns.count n = σ.now.getD n 0 := by rw [hns]; exact hcnt.1
 have hc2 := walk_out hI ns (fun n hn => by obtain ⟨k, hk⟩ := List.mem_iff_getElem?.1 hn; exact hnl k n hk) hc1
 have h2B : 2 ≤ σ.blocks := by have := hI.ok.geo.h4; omega
 clear hns hcnt hlive
 revert his hr hxs hyl
 generalize (ys.map fun p => [SV.int .u32 fun _ => toI p.1]) = YS
 generalize seenAt ys s' = sn
 intro his hr hxs hyl
 have hz : OutAt σ.blocks (ns.take 0) (List.replicate σ.blocks 0) := OutAt.zero _
 have hob : ∀ (k n : Nat), ns[k]? = some n → n < σ.blocks := fun k n hk => (asked_lt (live_asked (hnl k n hk))).2.1
 have hsl : ∀ (k n : Nat), σ.sup[k]? = some n → n < σ.blocks := fun k n hk => (hI.ok.supn n (List.mem_of_getElem? hk)).2
 refine spec_cl mixed F61 rfl rfl rfl (fun Γ hΓ hb => ?_)
 cbv
 refine VC.mk rf fun bo => ?_
 cbv
 intro b6
 cbv
 intro be
 cbv
 rw [toI_toNat, Nat.sub_self]
 revert hz
 generalize List.replicate σ.blocks (0 : Int) = o0
 intro hz
 refine cP hΓ (hr be) [0, 1, 2, 3, 4, 5, 8] ?_
 rintro x hp' ⟨b3, b4, b5, b7, b8, sa, rfl, rfl⟩
 refine ⟨rfl, ?_⟩
 cbv
 refine ⟨_, fun _ _ h => h, ?_⟩
 cbv
 refine ⟨[0, 1, 2, 3, 4, 5, 8, 9, 10, 11, 12, 13, 14, 16, 6, 7], fun k => vL b db σ q ⟨be, b3, b4, b5, b7, b8, ra, rd, sa, N, rs, off, len, ext, L⟩ (sn k),
  [.arr (some ⟨bo, 0, none⟩) (fun _ => σ.blocks) (fun _ => 0) [.int .i64 fun _ => o0] true, .box b6 122 [.sl 14 (fun _ => some ⟨bo, 0, none⟩) (fun _ => 0) (fun _ => σ.blocks) (fun _ => 0)] true], [(6, .bp 15 0)], [], [.bp 12 0, .bp 8 0],
  by simp, rfl, rfl, ⟨rfl, trivial⟩, rfl, by simp, fun rd rr => ⟨⟨_, rfl, .inl rfl⟩, ⟨_, rfl, .inl rfl⟩, ⟨_, rfl, .inl rfl⟩, ⟨_, rfl, .inl rfl⟩, ⟨_, rfl, .inl rfl⟩, ⟨_, rfl, .inr ⟨rfl, rfl⟩⟩, ⟨_, rfl, .inl rfl⟩, ⟨_, rfl, .inl rfl⟩, ⟨_, rfl, .inl rfl⟩, ⟨_, rfl, .inl rfl⟩, ⟨_, rfl, .inl rfl⟩, ⟨_, rfl, .inl rfl⟩, ⟨_, rfl, .inl rfl⟩, ⟨_, rfl, .inl rfl⟩, ⟨_, rfl, .inl rfl⟩, ⟨_, rfl, .inl rfl⟩, trivial⟩, ?_⟩
 refine ⟨List Int, Empty, fun k o => OutAt σ.blocks (ns.take k) o, fun o => [.arr (some ⟨bo, 0, none⟩) (fun _ => σ.blocks) (fun _ => 0) [.int .i64 fun _ => o] true, .box b6 122 [.sl 14 (fun _ => some ⟨bo, 0, none⟩) (fun _ => 0) (fun _ => σ.blocks) (fun _ => 0)] true],
  fun e => e.elim, fun e => e.elim, YS, o0, hΓ ▸ his _ hL hof hln hl, ?_, hz, rfl, fun q => ⟨rfl, rfl, [], rfl⟩, fun e => e.elim, ?_, ?_, fun _ e => e.elim⟩
 ·intro xs hx
  obtain ⟨k, hk⟩ := List.mem_iff_getElem?.1 hx
  obtain ⟨n, rfl, _⟩ := hxs k xs hk
  rfl
 ·intro k o xs Γ' r1 r2 hk hq hΓ' hb'
  obtain ⟨n, rfl, hkn⟩ := hxs k xs hk
  have hq : OutAt σ.blocks (ns.take k) o := hq
  have hnb := hob k n hkn
  have hcn : (ns.take k).count n ≤ 65535 := Nat.le_trans (List.Sublist.count_le _ (List.take_sublist _ _)) (hc2 n)
  have hon := hq.2 n
  cbv
  refine ⟨⟨rfl⟩, ?_⟩
  cbv
  refine VC.mk rf ?_
  rw [toI_toNat, Nat.zero_add]
  cbv
  refine VC.mk rf ?_
  cbv
  refine .mk (by rw [hon]; exact om) ?_
  cbv
  refine VC.mk rf ?_
  cbv
  refine VC.mk rf ?_
  rw [toI_toNat, Nat.zero_add]
  cbv
  refine RoundTo.by [.arr (some ⟨bo, 0, none⟩) (fun _ => σ.blocks) (fun _ => 0) [.int .i64 fun _ => o.set n (o.getD n 0 + 1)] true, .box b6 122 [.sl 14 (fun _ => some ⟨bo, 0, none⟩) (fun _ => 0) (fun _ => σ.blocks) (fun _ => 0)] true] [.one 0, .one 1, .one 2, .one 3, .one 4, .one 5, .one 6, .one 7, .one 8, .one 9, .one 10, .one 11, .one 12, .one 13, .one 14, .one 15] 14 hb' rfl rfl (nodup_of rfl) rfl ?_ ⟨_, hq.step hkn hnb, rfl⟩
  cbv
  exact rf
 ·intro o hq d rr r'
  refine ⟨rfl, ?_⟩
  have hq : OutAt σ.blocks (ns.take YS.length) o := hq
  rw [hyl, List.take_length] at hq
  cbv
  refine .no (neF rfl) ?_
  cbv
  repeat ((first | refine VC.mk rf ?_ | refine ADD.mk rf ?_); cbv)
  have hw := OwnAt.start hq h2B
  obtain ⟨o1, ho1⟩ : ∃ o1, o1 = (o.set 0 1).set 1 1 := ⟨_, rfl⟩
  rw [← ho1] at hw
  refine loopJ (α := Nat × List Int) (fun (i, o) => i ≤ σ.sup.length ∧ OwnAt σ.blocks ns (σ.sup.take i) o) (fun (i, o) => ⟨52, [(0, .bp 0 0), (6, .bp 7 0), (41, .sl 1 (fun _ => q.a) (fun _ => 0) (fun _ => σ.sup.length) (fun _ => q.e)), (42, .int .i64 fun _ => toI σ.sup.length), (43, .int .i64 fun _ => toI i)],
   appL (spL b db σ q) [.arr rd (fun _ => N) (fun _ => rs) [.nat .u32 fun _ => L] false, .arr (some ⟨bo, 0, none⟩) (fun _ => σ.blocks) (fun _ => 0) [.int .i64 fun _ => o] true, .box b6 122 [.sl 6 (fun _ => some ⟨bo, 0, none⟩) (fun _ => 0) (fun _ => σ.blocks) (fun _ => 0)] true, .res fun _ => DefR d], [(.yield d, [.bp 8 0], [])]⟩)
   (fun (i, _) => σ.sup.length - i) (0, o1) ⟨Nat.zero_le _, hw⟩ (subD [0, 1, 2, 3, 4, 5, 6, 7, 15] 6 hb rfl rfl rfl rfl rfl rfl rfl rfl ?_) ?_
  ·cbv
   (repeat' first | with_reducible rfl | exact (show Ch.base _ = _ from rfl) | ((try simp only [toI, inI, List.length_nil] at *); omega) | exact trivial | refine ⟨?_, ?_⟩ | refine ⟨?_⟩ | intro _)
   exact ho1.symm
  rintro ⟨i, oi⟩ hJ
  have hJ : i ≤ σ.sup.length ∧ OwnAt σ.blocks ns (σ.sup.take i) oi := hJ
  obtain ⟨hi, hw⟩ := hJ
  cbv
  refine ⟨fun hc => ?_, fun hc => ?_⟩
  ·replace hc := toI_lt hc
   obtain ⟨n, hn⟩ : ∃ n, σ.sup[i]? = some n := ⟨_, List.getElem?_eq_getElem hc⟩
   have hnb := hsl i n hn
   have hng : σ.sup.getD (0 + (toI i).toNat) 0 = n := by rw [toI_toNat, Nat.zero_add, List.getD_eq_getElem?_getD, hn]; rfl
   cbv
   refine VC.mk rf ?_
   cbv
   refine VC.mk rf ?_
   cbv
   rw [hng]
   refine VC.mk rf ?_
   cbv
   obtain ⟨o2, ho2⟩ : ∃ o2, oi.set n 1 = o2 := ⟨_, rfl⟩
   have hw2 : OwnAt σ.blocks ns (σ.sup.take (i + 1)) o2 := by rw [← ho2]; exact OwnAt.step hw hn hnb
   refine VC.mk rf ?_
   cbv
   rw [show (0 : Nat) + (toI n).toNat = n by rw [toI_toNat, Nat.zero_add], ho2]
   refine .mk rf ?_
   cbv
   refine ⟨(i + 1, o2), ⟨by omega, hw2⟩, show σ.sup.length - (i + 1) < σ.sup.length - i by omega, subD [0, 1, 2, 3, 4, 5, 6, 7, 8] 6 hb rfl rfl rfl rfl rfl rfl rfl rfl ?_⟩
   cbv
   exact rf
  ·replace hc := toI_nlt hc
   have hil : i = σ.sup.length := by omega
   rw [hil, List.take_length] at hw
   have hfin := OwnAt.fin hI hc1 hw hI.ok.nl
   subst hfin
   cbv
   refine ⟨rfl, ?_⟩
   cbv
   refine Cl.by (v' := .tup [.sl 6 (fun _ => some ⟨bo, 0, none⟩) (fun _ => 0) (fun _ => σ.blocks) (fun _ => 0), .int .i64 fun _ => 0])
    (hp' := appL (spL b db σ q) [.arr rd (fun _ => N) (fun _ => rs) [.nat .u32 fun _ => L] false, .arr (some ⟨bo, 0, none⟩) (fun _ => σ.blocks) (fun _ => 0) [.int .i64 fun _ => σ.now.map toI] true]) [.one 0, .one 1, .one 2, .one 3, .one 4, .one 5, .one 6] 6 hb rfl rfl (nodup_of rfl) rfl ?_ rfl ?_ ⟨bo, rfl, rfl⟩
   ·cbv
    exact rf
   ·cbv
    exact rf
theorem equal_ints (n s1 e1 s2 e2 : Nat) (a1 d1 a2 d2 : Option Addr) (l : List Int) (hn : n < 1000000000) :
  FnSpec Tryz.prog 62 [.arr d1 (fun _ => n) (fun _ => s1) [.int .i64 fun _ => l] false, .arr d2 (fun _ => n) (fun _ => s2) [.int .i64 fun _ => l] false] [.sl 0 (fun _ => a1) (fun _ => 0) (fun _ => n) (fun _ => e1), .sl 1 (fun _ => a2) (fun _ => 0) (fun _ => n) (fun _ => e2)]
   (fun x hp => x = .tt ∧ hp = [.arr d1 (fun _ => n) (fun _ => s1) [.int .i64 fun _ => l] false, .arr d2 (fun _ => n) (fun _ => s2) [.int .i64 fun _ => l] false]) := by
 refine spec_cl mixed F62 rfl rfl rfl (fun Γ hΓ hb => ?_)
 cbv
 refine .no (neF rfl) ?_
 cbv
 refine loopJ (fun (i : Nat) => i ≤ n) (fun i => ⟨26, [(0, .sl 0 (fun _ => a1) (fun _ => 0) (fun _ => n) (fun _ => e1)), (1, .sl 1 (fun _ => a2) (fun _ => 0) (fun _ => n) (fun _ => e2)), (12, .int .i64 fun _ => toI n), (13, .int .i64 fun _ => toI i)],
  [.arr d1 (fun _ => n) (fun _ => s1) [.int .i64 fun _ => l] false, .arr d2 (fun _ => n) (fun _ => s2) [.int .i64 fun _ => l] false], []⟩) (fun i => n - i) 0 (Nat.zero_le _) (sub2 [0, 1] 2 hb rfl rfl rfl rfl rfl rfl rfl rfl ?_) ?_
 ·cbv
  exact rf
 intro i hi
 cbv
 refine ⟨fun hc => ?_, fun hc => ?_⟩
 ·replace hc := toI_lt hc
  cbv
  repeat ((first | refine VC.mk rf ?_ | refine ADD.mk rf ?_); cbv)
  refine .no (neF rfl) ?_
  cbv
  refine .mk rf ?_
  cbv
  refine ⟨i + 1, hc, by show n - (i + 1) < n - i; omega, sub2 [0, 1] 2 hb rfl rfl rfl rfl rfl rfl rfl rfl ?_⟩
  cbv
  exact rf
 ·cbv
  exact Cl.same rfl ⟨rfl, rfl⟩
theorem space_Audit (b db N rs off len ext : Nat) (ra rd : Option Addr) (σ : Sp) (q : SpQ) (L : List Nat) (pg : PG) (E : List Nat) (hI : Inv σ pg E) (hL : L.length = N) (hof : off + len ≤ N) (hln : len < 1000000000) (hE : List.Perm (nz (subl L off len)) E) :
  FnSpec Tryz.prog 21 (appL (spL b db σ q) [.arr rd (fun _ => N) (fun _ => rs) [.nat .u32 fun _ => L] false]) [.bp 0 0, .sl 5 (fun _ => ra) (fun _ => off) (fun _ => len) (fun _ => ext)]
   (fun x hp => x = .int .i64 (fun _ => 0) ∧ hp = appL (spL b db σ q) [.arr rd (fun _ => N) (fun _ => rs) [.nat .u32 fun _ => L] false]) := by
 have hW := space_Walk b db N rs off len ext ra rd σ q L pg E hI hL hof hln hE
 have hA := counts_All q.nb σ.size σ.blocks σ.now hI.ok.now
 rw [hI.ok.nl] at hA
 have hb4 := hI.ok.b4
 revert hW hA
 generalize σ.now.map toI = ln
 intro hW hA
 refine spec_cl mixed F21 rfl rfl rfl (fun Γ hΓ hb => ?_)
 cbv
 refine cP hΓ (hW) [0, 1, 2, 3, 4, 5] ?_
 rintro x hp' ⟨bo, rfl, rfl⟩
 refine ⟨rfl, ?_⟩
 cbv
 refine .no (neF rfl) ?_
 cbv
 refine cP hΓ (hA) [3] ?_
 rintro x hp' ⟨a, ad, sp, rfl, rfl⟩
 refine ⟨rfl, ?_⟩
 cbv
 refine cP hΓ (equal_ints σ.blocks 0 0 sp sp (some ⟨bo, 0, none⟩) (some ⟨bo, 0, none⟩) a ad ln (by omega)) [6, 7] ?_
 rintro x hp' ⟨rfl, rfl⟩
 refine ⟨rfl, ?_⟩
 cbv
 exact Cl.tk 6 hb rfl rfl rfl ⟨rfl, rfl⟩
end Go.Proofs.YtfoffehokhkohaaGreat
set_option maxRecDepth 20000
namespace Go.Proofs.YtfoffehokhkohaaGreat
open Go
theorem spc_Room (b db k : Nat) (σ : Sp) (hk : k < 1000000000) (h : SpOk σ) :
  FnSpec Tryz.prog 53 [.res fun _ => SpaceR b db σ] [.pt fun _ => ⟨b, 0, none⟩, .int .i64 fun _ => toI k] (fun v hp => v = .int .i64 (fun _ => toI (spRoom σ k)) ∧ hp = [.res fun _ => SpaceR b db σ]) := by
 refine spec_lift rfl rfl (fun q => spO b db σ q) (fun _ => [.bp 1 0, .int .i64 fun _ => toI k]) (fun q => rfl) (fun Γ w h => open_pack (k := 0) h rfl) (fun q Γ hΓ hb => ?_)
 obtain ⟨r, hr⟩ : ∃ r, spRoom σ k = r := ⟨_, rfl⟩
 have hs := space_Room b db k σ q hk h
 rw [hr] at hs ⊢
 refine cP hΓ (hs) [1, 2, 3, 4, 5] ?_
 rintro x hp' ⟨rfl, rfl⟩
 refine ⟨rfl, ?_⟩
 cbv
 exact sp_fin hb q rfl rfl rfl (v' := .int .i64 fun _ => toI r) ⟨rfl⟩ rfl ⟨rfl, rfl⟩
theorem spc_Count (b db n : Nat) (σ : Sp) (hn : n < 4294967296) (h : SpOk σ) :
  FnSpec Tryz.prog 20 [.res fun _ => SpaceR b db σ] [.pt fun _ => ⟨b, 0, none⟩, .int .u32 fun _ => toI n] (fun v hp => v = .int .i64 (fun _ => toI (σ.now.getD n 0)) ∧ hp = [.res fun _ => SpaceR b db σ]) := by
 refine spec_lift rfl rfl (fun q => spO b db σ q) (fun _ => [.bp 1 0, .int .u32 fun _ => toI n]) (fun q => rfl) (fun Γ w h => open_pack (k := 0) h rfl) (fun q Γ hΓ hb => ?_)
 obtain ⟨r, hr⟩ : ∃ r, σ.now.getD n 0 = r := ⟨_, rfl⟩
 have hs := space_Count b db n σ q hn h
 rw [hr] at hs ⊢
 refine cP hΓ (hs) [1, 2, 3, 4, 5] ?_
 rintro x hp' ⟨rfl, rfl⟩
 refine ⟨rfl, ?_⟩
 cbv
 exact sp_fin hb q rfl rfl rfl (v' := .int .i64 fun _ => toI r) ⟨rfl⟩ rfl ⟨rfl, rfl⟩
theorem spc_Share (b db n : Nat) (σ : Sp) (hn : n < 4294967296) (h : SpOk σ) :
  FnSpec Tryz.prog 28 [.res fun _ => SpaceR b db σ] [.pt fun _ => ⟨b, 0, none⟩, .int .u32 fun _ => toI n] (fun v hp => v = .int .i64 (fun _ => (spShare σ n).1) ∧ hp = [.res fun _ => SpaceR b db (spShare σ n).2]) := by
 refine spec_lift rfl rfl (fun q => spO b db σ q) (fun _ => [.bp 1 0, .int .u32 fun _ => toI n]) (fun q => rfl) (fun Γ w h => open_pack (k := 0) h rfl) (fun q Γ hΓ hb => ?_)
 have hs := space_Share b db n σ q hn h
 revert hs
 generalize spShare σ n = r
 obtain ⟨e, σ'⟩ := r
 intro hs
 refine cP hΓ (hs) [1, 2, 3, 4, 5] ?_
 rintro x hp' ⟨rfl, rfl⟩
 refine ⟨rfl, ?_⟩
 cbv
 exact sp_fin hb q rfl rfl rfl (v' := .int .i64 fun _ => e) ⟨rfl⟩ rfl ⟨rfl, rfl⟩
theorem spc_Drop (b db n : Nat) (σ : Sp) (pg : PG) (E : List Nat) (h : Inv σ pg (n :: E)) (hE : E.length ≤ 100000) :
  FnSpec Tryz.prog 19 [.res fun _ => SpaceR b db σ] [.pt fun _ => ⟨b, 0, none⟩, .int .u32 fun _ => toI n]
   (fun v hp => ∃ σ', v = .int .i64 (fun _ => 0) ∧ hp = [.res fun _ => SpaceR b db σ'] ∧ Inv σ' pg E ∧ Step 0 σ σ') := by
 refine spec_lift rfl rfl (fun q => spO b db σ q) (fun _ => [.bp 1 0, .int .u32 fun _ => toI n]) (fun q => rfl) (fun Γ w h => open_pack (k := 0) h rfl) (fun q Γ hΓ hb => ?_)
 refine cP hΓ (space_Drop b db n σ q pg E h hE) [1, 2, 3, 4, 5] ?_
 rintro x hp' ⟨σ', rfl, rfl, h1, h2⟩
 refine ⟨rfl, ?_⟩
 cbv
 exact sp_fin hb q rfl rfl rfl (v' := .int .i64 fun _ => 0) ⟨rfl⟩ rfl ⟨σ', rfl, rfl, h1, h2⟩
theorem spc_Get (b db n : Nat) (σ : Sp) (p : Page) (h : SpOk σ) (hn : spAsked σ n = true) (h0 : σ.now.getD n 0 ≠ 0) (hp : SpHas σ n p) :
  FnSpec Tryz.prog 59 [.res fun _ => SpaceR b db σ] [.pt fun _ => ⟨b, 0, none⟩, .int .u32 fun _ => toI n]
   (fun v hp => ∃ (a ad : Option Addr) (e : Nat), v = .tup [.agg [.int .u8 fun _ => toI p.tag, .sl 1 (fun _ => a) (fun _ => 0) (fun _ => p.kids.length) (fun _ => e), .str fun _ => p.data], .int .i64 fun _ => 0] ∧
    hp = [.res fun _ => SpaceR b db σ, .arr ad (fun _ => p.kids.length) (fun _ => e) [.nat .u32 fun _ => p.kids] true]) := by
 refine spec_lift rfl rfl (fun q => spO b db σ q) (fun _ => [.bp 1 0, .int .u32 fun _ => toI n]) (fun q => rfl) (fun Γ w h => open_pack (k := 0) h rfl) (fun q Γ hΓ hb => ?_)
 refine cP hΓ (space_Get b db n σ q p h hn h0 hp) [1, 2, 3, 4, 5] ?_
 rintro x hp' ⟨a, ad, e, rfl, rfl⟩
 refine ⟨rfl, ?_⟩
 cbv
 refine Cl.by (v' := .tup [.agg [.int .u8 fun _ => toI p.tag, .sl 1 (fun _ => a) (fun _ => 0) (fun _ => p.kids.length) (fun _ => e), .str fun _ => p.data], .int .i64 fun _ => 0])
  (hp' := [.res fun _ => SpaceR b db σ, .arr ad (fun _ => p.kids.length) (fun _ => e) [.nat .u32 fun _ => p.kids] true]) [.pack 0 [1, 2, 3, 4, 5], .one 6] 1 hb rfl rfl (nodup_of rfl) rfl ⟨⟨_, _, q, rfl, rfl, rfl, rfl, ?_, rfl⟩, ?_⟩ rfl ?_ ⟨a, ad, e, rfl, rfl⟩
 ·cbv
  exact rf
 ·cbv
  exact rf
 ·cbv
  exact rf
end Go.Proofs.YtfoffehokhkohaaGreat
