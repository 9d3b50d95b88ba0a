/- Part 18 of what is proved in the last text (packed by a program of mine). -/
import Derived.Test.YtfoffehokhkohaaGreatK11
import Derived.Test.YtfoffehokhkohaaGreatK12
import Derived.Test.YtfoffehokhkohaaGreatK13
import Derived.Test.YtfoffehokhkohaaGreatK17
set_option linter.all false
set_option maxRecDepth 20000
namespace Go.Proofs.YtfoffehokhkohaaGreat
open Go
def idxOf (l : List Nat) (off len x : Nat) : Int := match (List.range len).find? (fun i => l.getD (off + i) 0 == x) with
 | some i => toI i
 | none => -1
theorem toI_eq (a b : Nat) : (toI a == toI b) = (a == b) := by
 simp only [toI]
 by_cases h : a = b
 ·subst h; simp
 ·rw [beq_false_of_ne h, beq_false_of_ne (by omega)]
theorem slices_Index (ad a : Option Addr) (n sp off len ext x : Nat) (l : List Nat) (hl : l.length = n) (h : off + len ≤ n) (hlen : len ≤ 1000000000) :
  FnSpec Tryz.prog 154 [.arr ad (fun _ => n) (fun _ => sp) [.nat .u32 fun _ => l] false] [.sl 0 (fun _ => a) (fun _ => off) (fun _ => len) (fun _ => ext), .int .u32 fun _ => toI x]
   (fun v hp => v = .int .i64 (fun _ => idxOf l off len x) ∧ hp = [.arr ad (fun _ => n) (fun _ => sp) [.nat .u32 fun _ => l] false]) := by
 refine spec_cl mixed F154 rfl rfl rfl (fun Γ hΓ hb => ?_)
 cbv
 refine loopJ (fun (i : Nat) => i ≤ len ∧ ∀ j, j < i → (l.getD (off + j) 0 == x) = false) (fun i => ⟨19, [(0, .sl 0 (fun _ => a) (fun _ => off) (fun _ => len) (fun _ => ext)), (1, .int .u32 fun _ => toI x), (7, .int .i64 fun _ => toI len), (8, .int .i64 fun _ => toI i)], [.arr ad (fun _ => n) (fun _ => sp) [.nat .u32 fun _ => l] false], []⟩) (fun i => len - i) 0 ⟨Nat.zero_le _, fun j hj => absurd hj (Nat.not_lt_zero _)⟩ (sub2 [0] 1 hb rfl rfl rfl rfl rfl rfl rfl rfl ?_) ?_
 ·cbv
  exact rf
 ·rintro i ⟨hi, hno⟩
  cbv
  refine ⟨fun hc => ?_, fun hc => ?_⟩
  ·replace hc := toI_lt hc
   cbv
   refine ⟨rf, ?_⟩
   cbv
   refine ⟨rf, ?_⟩
   have e0 : l.getD (off + (toI i).toNat) 0 = l.getD (off + i) 0 := by rw [toI_toNat]
   cbv
   refine ⟨fun h1 => ?_, fun h1 => ?_⟩
   ·have h1 : (toI x == toI (l.getD (off + (toI i).toNat) 0)) = true := h1
    rw [e0, toI_eq] at h1
    have hf : idxOf l off len x = toI i := by
     unfold idxOf
     rw [find_range hc hno (by have := of_decide_eq_true h1; simp [this])]
    cbv
    exact Cl.take 1 (.int .i64 fun _ => idxOf l off len x) hb rfl rfl ⟨hf.symm⟩ rfl ⟨rfl, rfl⟩
   ·have h1 : (toI x == toI (l.getD (off + (toI i).toNat) 0)) = false := h1
    rw [e0, toI_eq] at h1
    cbv
    refine .mk rf ?_
    cbv
    refine ⟨i + 1, ⟨hc, fun j hj => ?_⟩, by omega, sub2 [0] 1 hb rfl rfl rfl rfl rfl rfl rfl rfl ?_⟩
    ·by_cases e : j = i
     ·subst e
      have := of_decide_eq_false h1
      exact beq_false_of_ne (fun h => this h.symm)
     ·exact hno j (by omega)
    ·cbv
     exact rf
  ·replace hc := toI_nlt hc
   have : i = len := by omega
   subst this
   have hf : idxOf l off i x = -1 := by
    unfold idxOf
    rw [find_range_none hno]
   cbv
   exact Cl.take 1 (.int .i64 fun _ => idxOf l off i x) hb rfl rfl ⟨hf.symm⟩ rfl ⟨rfl, rfl⟩
theorem idxOf_nonneg (l : List Nat) (off len x : Nat) (hl : off + len ≤ l.length) : decide (idxOf l off len x ≥ 0) = (subl l off len).contains x := by
 have key : ∀ i, i < len → l.getD (off + i) 0 ∈ subl l off len := by
  intro i hi
  have : (subl l off len)[i]? = some (l.getD (off + i) 0) := by
   unfold subl
   rw [List.getElem?_take, if_pos hi, List.getElem?_drop, List.getD_eq_getElem?_getD, List.getElem?_eq_getElem (by omega)]
   rfl
  exact List.mem_of_getElem? this
 unfold idxOf
 cases hf : (List.range len).find? (fun i => l.getD (off + i) 0 == x) with
 | some i =>
  have h1 := List.find?_some hf
  have h2 := List.mem_of_find?_eq_some hf
  have h3 : l.getD (off + i) 0 = x := by simpa using h1
  have h4 := key i (by simpa using h2)
  rw [h3] at h4
  simp only
  rw [List.contains_iff_mem.2 h4]
  simp [toI]
 | none =>
  rw [List.find?_eq_none] at hf
  have : (subl l off len).contains x = false := by
   rw [Bool.eq_false_iff]
   intro hc
   rw [List.contains_iff_mem] at hc
   obtain ⟨i, hi, he⟩ := List.getElem_of_mem hc
   have hil : i < len := by rw [subl_length l off len hl] at hi; exact hi
   have := hf i (by simpa using hil)
   apply this
   have e2 : (subl l off len)[i]? = some x := by rw [List.getElem?_eq_getElem hi, he]
   unfold subl at e2
   rw [List.getElem?_take, if_pos hil, List.getElem?_drop] at e2
   simp [List.getD_eq_getElem?_getD, e2]
  rw [this]
  simp
theorem slices_Contains (ad a : Option Addr) (n sp off len ext x : Nat) (l : List Nat) (hl : l.length = n) (h : off + len ≤ n) (hlen : len ≤ 1000000000) :
  FnSpec Tryz.prog 105 [.arr ad (fun _ => n) (fun _ => sp) [.nat .u32 fun _ => l] false] [.sl 0 (fun _ => a) (fun _ => off) (fun _ => len) (fun _ => ext), .int .u32 fun _ => toI x]
   (fun v hp => v = .bl (fun _ => (subl l off len).contains x) ∧ hp = [.arr ad (fun _ => n) (fun _ => sp) [.nat .u32 fun _ => l] false]) := by
 refine spec_cl mixed F105 rfl rfl rfl (fun Γ hΓ hb => ?_)
 cbv
 refine callP_by hΓ (slices_Index ad a n sp off len ext x l hl h hlen) [0] (by simp) ⟨⟨_, rfl, .inl rfl⟩, trivial⟩ rfl ?_
 rintro x' hp' ⟨rfl, rfl⟩
 refine ⟨rfl, ?_⟩
 cbv
 exact Cl.take 1 (.bl fun _ => (subl l off len).contains x) hb rfl rfl ⟨idxOf_nonneg l off len x (by omega)⟩ rfl ⟨rfl, rfl⟩
def superN (size blocks : Nat) : Nat := (2 * blocks + (size - 16) - 1) / (size - 16)
theorem super_Pages (size blocks : Nat) (g : GeoOk size blocks) : FnSpec Tryz.prog 86 [] [.agg [.int .i64 fun _ => toI size, .int .i64 fun _ => toI blocks]] (fun v hp => v = .int .i64 (fun _ => toI (superN size blocks)) ∧ hp = []) := by
 obtain ⟨g1, g2, g3, g4, g5⟩ := g
 refine spec_cl mixed F86 rfl rfl rfl (fun Γ hΓ hb => ?_)
 cbv
 intro b0
 cbv
 refine callP_by hΓ (device_Check size blocks ⟨g1, g2, g3, g4, g5⟩) [] (by simp) trivial rfl ?_
 rintro x hp' ⟨rfl, rfl⟩
 refine ⟨rfl, ?_⟩
 cbv
 refine .no (neF rfl) ?_
 cbv
 refine callP_by hΓ (frame_Room size ⟨g1, g2, g3, by omega, by omega⟩) [] (by simp) trivial rfl ?_
 rintro x hp' ⟨rfl, rfl⟩
 refine ⟨rfl, ?_⟩
 cbv
 refine ⟨rf, ?_⟩
 cbv
 refine .mk rf ?_
 cbv
 refine ⟨rf, ?_⟩
 cbv
 have hq : (2 * toI blocks + toI (size - 16) - 1).tdiv (toI (size - 16)) = toI (superN size blocks) := by
  unfold superN
  simp only [toI]
  rw [Int.tdiv_eq_ediv_of_nonneg (by omega)]
  rw [Int.natCast_ediv]
  congr 1
  omega
 have hle : superN size blocks ≤ 2 * blocks + (size - 16) - 1 := Nat.div_le_self _ _
 refine ⟨⟨by exact om, by rw [hq]; exact om⟩, ?_⟩
 cbv
 exact Cl.take 0 (.int .i64 fun _ => toI (superN size blocks)) hb rfl rfl ⟨hq⟩ rfl ⟨rfl, rfl⟩
structure SuperOk (size blocks gen root : Nat) (pages : List Nat) : Prop where
 geo : GeoOk size blocks
 gen1 : 1 ≤ gen
 gen2 : gen < 18446744073709551616
 rt : root = 0 ∨ (2 ≤ root ∧ root < blocks)
 len : pages.length = superN size blocks
 page : ∀ n ∈ pages, 2 ≤ n ∧ n < blocks ∧ n ≠ root
 nodup : pages.Nodup
 fits : 14 + 4 * pages.length ≤ size - 16
theorem super_Check1 (b ty size blocks gen root n ext sp : Nat) (a ad : Option Addr) (pages : List Nat) (hb5 : blocks ≤ 4096) (hn : 2 ≤ n ∧ n < blocks) :
  FnSpec Tryz.prog 136 [.box b ty [.int .u64 fun _ => toI gen, .int .i64 fun _ => toI size, .int .i64 fun _ => toI blocks, .int .u32 fun _ => toI root, .sl 1 (fun _ => a) (fun _ => 0) (fun _ => pages.length) (fun _ => ext)] true, .arr ad (fun _ => pages.length) (fun _ => sp) [.nat .u32 fun _ => pages] false] [.int .u32 fun _ => toI n, .bp 0 0]
   (fun v hp => v = .tt ∧ hp = [.box b ty [.int .u64 fun _ => toI gen, .int .i64 fun _ => toI size, .int .i64 fun _ => toI blocks, .int .u32 fun _ => toI root, .sl 1 (fun _ => a) (fun _ => 0) (fun _ => pages.length) (fun _ => ext)] true, .arr ad (fun _ => pages.length) (fun _ => sp) [.nat .u32 fun _ => pages] false]) := by
 refine spec_cl mixed F136 rfl rfl rfl (fun Γ hΓ hb => ?_)
 have e1 : wr .u64 (toI n) = toI n := wr_u64 om om
 have e2 : wr .u64 (toI blocks) = toI blocks := wr_u64 om om
 cbv
 refine .yes (decide_eq_true om) ?_
 cbv
 exact Cl.take 2 .tt hb rfl rfl ⟨decide_eq_true (by rw [e1, e2]; exact om)⟩ rfl ⟨rfl, rfl⟩
theorem super_Check (size blocks gen root ext sp : Nat) (a ad : Option Addr) (pages : List Nat) (h : SuperOk size blocks gen root pages) :
  FnSpec Tryz.prog 88 [.arr ad (fun _ => pages.length) (fun _ => sp) [.nat .u32 fun _ => pages] false] [.agg [.int .u64 fun _ => toI gen, .int .i64 fun _ => toI size, .int .i64 fun _ => toI blocks, .int .u32 fun _ => toI root, .sl 0 (fun _ => a) (fun _ => 0) (fun _ => pages.length) (fun _ => ext)]]
   (fun v hp => v = .int .i64 (fun _ => 0) ∧ hp = [.arr ad (fun _ => pages.length) (fun _ => sp) [.nat .u32 fun _ => pages] false]) := by
 obtain ⟨geo, gen1, gen2, rt, hlen, page, nodup, fits⟩ := h
 have g1 := geo.h1
 have g2 := geo.h2
 have g5 := geo.h5
 refine spec_cl mixed F88 rfl rfl rfl (fun Γ hΓ hb => ?_)
 cbv
 intro b
 cbv
 refine callP_by hΓ (device_Check size blocks geo) [] (by simp) trivial rfl ?_
 rintro x hp' ⟨rfl, rfl⟩
 refine ⟨rfl, ?_⟩
 cbv
 refine .no (neF rfl) ?_
 cbv
 refine .no (eqF om) ?_
 cbv
 refine ⟨fun hr => ?_, fun hr => ?_⟩
 ·have hr : toI root ≠ 0 := by simpa using hr
  have hrt : 2 ≤ root ∧ root < blocks := by rcases rt with rfl | h; exact absurd rfl hr; exact h
  cbv
  refine callP_by hΓ (super_Check1 b 78 size blocks gen root root ext sp a ad pages g5 hrt) [1, 0] (by simp) ⟨⟨_, rfl, .inl rfl⟩, ⟨_, rfl, .inl rfl⟩, trivial⟩ rfl ?_
  rintro x hp' ⟨rfl, rfl⟩
  refine ⟨rfl, ?_⟩
  cbv
  refine callP_by hΓ (super_Pages size blocks geo) [] (by simp) trivial rfl ?_
  rintro x hp' ⟨rfl, rfl⟩
  refine ⟨rfl, ?_⟩
  cbv
  refine ⟨rfl, ?_⟩
  cbv
  refine .no (neF (by rw [hlen])) ?_
  cbv
  refine loopJ (fun (i : Nat) => i ≤ pages.length) (fun i => ⟨74, [(1, .bp 1 0), (3, .fn (.func 136) [] [.bp 1 0]), (38, .sl 0 (fun _ => a) (fun _ => 0) (fun _ => pages.length) (fun _ => ext)), (39, .int .i64 fun _ => toI pages.length), (40, .int .i64 fun _ => toI i)], [.arr ad (fun _ => pages.length) (fun _ => sp) [.nat .u32 fun _ => pages] false, .box b 78 [.int .u64 fun _ => toI gen, .int .i64 fun _ => toI size, .int .i64 fun _ => toI blocks, .int .u32 fun _ => toI root, .sl 0 (fun _ => a) (fun _ => 0) (fun _ => pages.length) (fun _ => ext)] true], []⟩) (fun i => pages.length - i) 0 (Nat.zero_le _) (sub2 [0, 1] 1 hb rfl rfl rfl rfl rfl rfl rfl rfl ?_) ?_
  ·cbv
   exact rf
  ·intro i hi
   cbv
   refine ⟨fun hc => ?_, fun hc => ?_⟩
   ·replace hc := toI_lt hc
    have hmem : pages[i] ∈ pages := List.getElem_mem hc
    obtain ⟨q1, q2, q3⟩ := page _ hmem
    have hgd : pages.getD (0 + (toI i).toNat) 0 = pages[i] := by
     rw [toI_toNat, Nat.zero_add, List.getD_eq_getElem?_getD, List.getElem?_eq_getElem hc]; rfl
    cbv
    refine ⟨rf, ?_⟩
    cbv
    refine ⟨rf, ?_⟩
    cbv
    refine callP_eq (args' := [.int .u32 fun _ => toI pages[i], .bp 1 0]) (hp' := [.arr ad (fun _ => pages.length) (fun _ => sp) [.nat .u32 fun _ => pages] false, .box b 78 [.int .u64 fun _ => toI gen, .int .i64 fun _ => toI size, .int .i64 fun _ => toI blocks, .int .u32 fun _ => toI root, .sl 0 (fun _ => a) (fun _ => 0) (fun _ => pages.length) (fun _ => ext)] true]) [.one 0, .one 1] 1 hb rfl rfl (nodup_of rfl) rfl rfl rfl ?_ ?_
    ·generalize hpi : pages[i] = pi at hgd
     cbv
     exact rf
    refine callP_by hΓ (super_Check1 b 78 size blocks gen root pages[i] ext sp a ad pages g5 ⟨q1, q2⟩) [1, 0] (by simp) ⟨⟨_, rfl, .inl rfl⟩, ⟨_, rfl, .inl rfl⟩, trivial⟩ rfl ?_
    rintro x hp' ⟨rfl, rfl⟩
    refine ⟨rfl, ?_⟩
    cbv
    refine .no (eqF (by rw [hgd]; exact om)) ?_
    cbv
    refine ⟨rf, fun a1 => ?_⟩
    cbv
    refine callP_eq (args' := [.sl 0 (fun _ => a1) (fun _ => 0) (fun _ => i) (fun _ => pages.length + ext - i), .int .u32 fun _ => toI pages[i]]) (hp' := [.arr ad (fun _ => pages.length) (fun _ => sp) [.nat .u32 fun _ => pages] false, .box b 78 [.int .u64 fun _ => toI gen, .int .i64 fun _ => toI size, .int .i64 fun _ => toI blocks, .int .u32 fun _ => toI root, .sl 0 (fun _ => a) (fun _ => 0) (fun _ => pages.length) (fun _ => ext)] true]) [.one 0, .one 1] 1 hb rfl rfl (nodup_of rfl) rfl rfl rfl ?_ ?_
    ·generalize hpi : pages[i] = pi at hgd
     cbv
     exact rf
    refine callP_by hΓ (slices_Contains ad a1 pages.length sp 0 i (pages.length + ext - i) pages[i] pages rfl (by omega) (by omega)) [0] (by simp) ⟨⟨_, rfl, .inl rfl⟩, trivial⟩ rfl ?_
    rintro x hp' ⟨rfl, rfl⟩
    refine ⟨rfl, ?_⟩
    have hnc : (subl pages 0 i).contains pages[i] = false := by
     rw [Bool.eq_false_iff]
     intro hcc
     rw [List.contains_iff_mem] at hcc
     have : subl pages 0 i = pages.take i := by simp [subl]
     rw [this] at hcc
     obtain ⟨j, hj, he⟩ := List.getElem_of_mem hcc
     simp only [List.length_take] at hj
     rw [List.getElem_take] at he
     have := (List.getElem_inj nodup).1 he
     omega
    generalize pages[i] = pi at hnc
    cbv
    refine .no hnc ?_
    cbv
    refine .mk rf ?_
    cbv
    refine ⟨i + 1, by omega, by omega, sub2 [0, 1] 1 hb rfl rfl rfl rfl rfl rfl rfl rfl ?_⟩
    cbv
    exact rf
   ·replace hc := toI_nlt hc
    have : i = pages.length := by omega
    subst this
    cbv
    refine ⟨rf, ?_⟩
    cbv
    refine .mk rf ?_
    cbv
    refine callP_by hΓ (frame_Room size ⟨g1, g2, geo.h3, by omega, by omega⟩) [] (by simp) trivial rfl ?_
    rintro x hp' ⟨rfl, rfl⟩
    refine ⟨rfl, ?_⟩
    cbv
    refine ⟨rfl, ?_⟩
    cbv
    refine .no (decide_eq_false om) ?_
    cbv
    exact Cl.tk 1 hb rfl rfl rfl ⟨rfl, rfl⟩
 ·cbv
  refine callP_by hΓ (super_Pages size blocks geo) [] (by simp) trivial rfl ?_
  rintro x hp' ⟨rfl, rfl⟩
  refine ⟨rfl, ?_⟩
  cbv
  refine ⟨rfl, ?_⟩
  cbv
  refine .no (neF (by rw [hlen])) ?_
  cbv
  refine loopJ (fun (i : Nat) => i ≤ pages.length) (fun i => ⟨74, [(1, .bp 1 0), (3, .fn (.func 136) [] [.bp 1 0]), (38, .sl 0 (fun _ => a) (fun _ => 0) (fun _ => pages.length) (fun _ => ext)), (39, .int .i64 fun _ => toI pages.length), (40, .int .i64 fun _ => toI i)], [.arr ad (fun _ => pages.length) (fun _ => sp) [.nat .u32 fun _ => pages] false, .box b 78 [.int .u64 fun _ => toI gen, .int .i64 fun _ => toI size, .int .i64 fun _ => toI blocks, .int .u32 fun _ => toI root, .sl 0 (fun _ => a) (fun _ => 0) (fun _ => pages.length) (fun _ => ext)] true], []⟩) (fun i => pages.length - i) 0 (Nat.zero_le _) (sub2 [0, 1] 1 hb rfl rfl rfl rfl rfl rfl rfl rfl ?_) ?_
  ·cbv
   exact rf
  ·intro i hi
   cbv
   refine ⟨fun hc => ?_, fun hc => ?_⟩
   ·replace hc := toI_lt hc
    have hmem : pages[i] ∈ pages := List.getElem_mem hc
    obtain ⟨q1, q2, q3⟩ := page _ hmem
    have hgd : pages.getD (0 + (toI i).toNat) 0 = pages[i] := by
     rw [toI_toNat, Nat.zero_add, List.getD_eq_getElem?_getD, List.getElem?_eq_getElem hc]; rfl
    cbv
    refine ⟨rf, ?_⟩
    cbv
    refine ⟨rf, ?_⟩
    cbv
    refine callP_eq (args' := [.int .u32 fun _ => toI pages[i], .bp 1 0]) (hp' := [.arr ad (fun _ => pages.length) (fun _ => sp) [.nat .u32 fun _ => pages] false, .box b 78 [.int .u64 fun _ => toI gen, .int .i64 fun _ => toI size, .int .i64 fun _ => toI blocks, .int .u32 fun _ => toI root, .sl 0 (fun _ => a) (fun _ => 0) (fun _ => pages.length) (fun _ => ext)] true]) [.one 0, .one 1] 1 hb rfl rfl (nodup_of rfl) rfl rfl rfl ?_ ?_
    ·generalize hpi : pages[i] = pi at hgd
     cbv
     exact rf
    refine callP_by hΓ (super_Check1 b 78 size blocks gen root pages[i] ext sp a ad pages g5 ⟨q1, q2⟩) [1, 0] (by simp) ⟨⟨_, rfl, .inl rfl⟩, ⟨_, rfl, .inl rfl⟩, trivial⟩ rfl ?_
    rintro x hp' ⟨rfl, rfl⟩
    refine ⟨rfl, ?_⟩
    cbv
    refine .no (eqF (by rw [hgd]; exact om)) ?_
    cbv
    refine ⟨rf, fun a1 => ?_⟩
    cbv
    refine callP_eq (args' := [.sl 0 (fun _ => a1) (fun _ => 0) (fun _ => i) (fun _ => pages.length + ext - i), .int .u32 fun _ => toI pages[i]]) (hp' := [.arr ad (fun _ => pages.length) (fun _ => sp) [.nat .u32 fun _ => pages] false, .box b 78 [.int .u64 fun _ => toI gen, .int .i64 fun _ => toI size, .int .i64 fun _ => toI blocks, .int .u32 fun _ => toI root, .sl 0 (fun _ => a) (fun _ => 0) (fun _ => pages.length) (fun _ => ext)] true]) [.one 0, .one 1] 1 hb rfl rfl (nodup_of rfl) rfl rfl rfl ?_ ?_
    ·generalize hpi : pages[i] = pi at hgd
     cbv
     exact rf
    refine callP_by hΓ (slices_Contains ad a1 pages.length sp 0 i (pages.length + ext - i) pages[i] pages rfl (by omega) (by omega)) [0] (by simp) ⟨⟨_, rfl, .inl rfl⟩, trivial⟩ rfl ?_
    rintro x hp' ⟨rfl, rfl⟩
    refine ⟨rfl, ?_⟩
    have hnc : (subl pages 0 i).contains pages[i] = false := by
     rw [Bool.eq_false_iff]
     intro hcc
     rw [List.contains_iff_mem] at hcc
     have : subl pages 0 i = pages.take i := by simp [subl]
     rw [this] at hcc
     obtain ⟨j, hj, he⟩ := List.getElem_of_mem hcc
     simp only [List.length_take] at hj
     rw [List.getElem_take] at he
     have := (List.getElem_inj nodup).1 he
     omega
    generalize pages[i] = pi at hnc
    cbv
    refine .no hnc ?_
    cbv
    refine .mk rf ?_
    cbv
    refine ⟨i + 1, by omega, by omega, sub2 [0, 1] 1 hb rfl rfl rfl rfl rfl rfl rfl rfl ?_⟩
    cbv
    exact rf
   ·replace hc := toI_nlt hc
    have : i = pages.length := by omega
    subst this
    cbv
    refine ⟨rf, ?_⟩
    cbv
    refine .mk rf ?_
    cbv
    refine callP_by hΓ (frame_Room size ⟨g1, g2, geo.h3, by omega, by omega⟩) [] (by simp) trivial rfl ?_
    rintro x hp' ⟨rfl, rfl⟩
    refine ⟨rfl, ?_⟩
    cbv
    refine ⟨rfl, ?_⟩
    cbv
    refine .no (decide_eq_false om) ?_
    cbv
    exact Cl.tk 1 hb rfl rfl rfl ⟨rfl, rfl⟩
def superH (size blocks root np : Nat) : Bytes := leB size 4 ++ leB blocks 4 ++ leB root 4 ++ leB np 2
def superD (size blocks root : Nat) (pages : List Nat) : Bytes := superH size blocks root pages.length ++ pages.flatMap (leB · 4)
def superB (size blocks gen root : Nat) (pages : List Nat) : Bytes := frameB size 1 gen (superD size blocks root pages)
theorem flatMap_leB_length (l : List Nat) (n : Nat) : (l.flatMap (leB · n)).length = n * l.length := by
 induction l with
 | nil => rfl
 | cons x l ih => simp only [List.flatMap_cons, List.length_append, leB_length, ih, List.length_cons, Nat.mul_succ]; omega
theorem superD_length (size blocks root : Nat) (pages : List Nat) : (superD size blocks root pages).length = 14 + 4 * pages.length := by
 simp only [superD, superH, List.length_append, leB_length, flatMap_leB_length]
theorem super_Put (size blocks gen root ext sp : Nat) (a ad : Option Addr) (pages : List Nat) (h : SuperOk size blocks gen root pages) :
  FnSpec Tryz.prog 118 [.arr ad (fun _ => pages.length) (fun _ => sp) [.nat .u32 fun _ => pages] false] [.agg [.int .u64 fun _ => toI gen, .int .i64 fun _ => toI size, .int .i64 fun _ => toI blocks, .int .u32 fun _ => toI root, .sl 0 (fun _ => a) (fun _ => 0) (fun _ => pages.length) (fun _ => ext)]]
   (fun v hp => v = .tup [.str fun _ => superB size blocks gen root pages, .int .i64 fun _ => 0] ∧ hp = [.arr ad (fun _ => pages.length) (fun _ => sp) [.nat .u32 fun _ => pages] false]) := by
 have hck := super_Check size blocks gen root ext sp a ad pages h
 obtain ⟨geo, gen1, gen2, rt, hlen, page, nodup, fits⟩ := h
 have g1 := geo.h1
 have g2 := geo.h2
 have g5 := geo.h5
 refine spec_cl mixed F118 rfl rfl rfl (fun Γ hΓ hb => ?_)
 cbv
 intro b
 cbv
 refine callP_by hΓ hck [0] (by simp) ⟨⟨_, rfl, .inl rfl⟩, trivial⟩ rfl ?_
 rintro x hp' ⟨rfl, rfl⟩
 refine ⟨rfl, ?_⟩
 cbv
 refine .no (neF rfl) ?_
 cbv
 have w1 : wr .u64 (toI size) = toI size := wr_u64 om om
 have w2 : wr .u64 (toI blocks) = toI blocks := wr_u64 om om
 have w3 : wr .u64 (toI root) = toI root := wr_u64 om (by rcases rt with rfl | h <;> exact om)
 refine ⟨⟨⟨by rw [w1]; exact om, by rw [w2]; exact om, by rw [w3]; exact om, trivial⟩, trivial⟩, fun b1 => ?_⟩
 cbv
 let ws : List Nat := [size, blocks, root]
 refine loopJ (α := Nat × Option Addr × Option Addr × Nat) (fun (i, _, _, _) => i ≤ 3) (fun (i, a', ad', sp') => ⟨65, [(1, .bp 1 0), (5, .sl 3 (fun _ => a') (fun _ => 0) (fun _ => 4 * i) (fun _ => sp')), (26, .sl 2 (fun _ => some ⟨b1, 0, none⟩) (fun _ => 0) (fun _ => 3) (fun _ => 0)), (27, .int .i64 fun _ => 3), (28, .int .i64 fun _ => toI i)],
  [.arr ad (fun _ => pages.length) (fun _ => sp) [.nat .u32 fun _ => pages] false, .box b 78 [.int .u64 fun _ => toI gen, .int .i64 fun _ => toI size, .int .i64 fun _ => toI blocks, .int .u32 fun _ => toI root, .sl 0 (fun _ => a) (fun _ => 0) (fun _ => pages.length) (fun _ => ext)] true, .arr (some ⟨b1, 0, none⟩) (fun _ => 3) (fun _ => 0) [.nat .u64 fun _ => [size, blocks, root]] true, .arr ad' (fun _ => 4 * i) (fun _ => sp') [.b8 fun _ => ([size, blocks, root].take i).flatMap (leB · 4)] true], []⟩) (fun (i, _, _, _) => 3 - i) (0, none, none, 0) (Nat.zero_le _) (Sub.nil [.b8] (sub2 [0, 1, 2, 3] 1 hb rfl rfl rfl rfl rfl rfl rfl rfl ?_)) ?_
 ·cbv
  (repeat' first | with_reducible rfl | exact (show Ch.base _ = _ from rfl) | ((try simp only [toI, inI, List.length_nil] at *); omega) | exact trivial | refine ⟨?_, ?_⟩ | refine ⟨?_⟩ | intro _)
  ·show [(wr .u64 (toI size)).toNat, (wr .u64 (toI blocks)).toNat, (wr .u64 (toI root)).toNat] = _
   rw [w1, w2, w3, toI_toNat, toI_toNat, toI_toNat]
  ·rfl
 ·rintro ⟨i, a', ad', sp'⟩ hi
  have hi : i ≤ 3 := hi
  cbv
  refine ⟨fun hc => ?_, fun hc => ?_⟩
  ·replace hc := of_decide_eq_true hc
   have hc : i < 3 := by exact om
   cbv
   refine ⟨rf, ?_⟩
   cbv
   refine ⟨rf, ?_⟩
   cbv
   refine callP_by hΓ (octet_Put ([size, blocks, root].getD (0 + (toI i).toNat) 0) 4 (([size, blocks, root].take i).flatMap (leB · 4)) a' ad' (4 * i) sp' (by omega) (by omega) (by rw [flatMap_leB_length]; simp; omega) (by omega)) [3] (by simp) ⟨⟨_, rfl, .inl rfl⟩, trivial⟩ rfl ?_
   rintro x hp' ⟨a2, ad2, sp2, rfl, rfl⟩
   refine ⟨rfl, ?_⟩
   have hnx : ([size, blocks, root].take i).flatMap (leB · 4) ++ leB ([size, blocks, root].getD (0 + (toI i).toNat) 0) 4 = ([size, blocks, root].take (i + 1)).flatMap (leB · 4) := by
    have := subl_take [size, blocks, root] 0 3 i (by simp) hc 0
    simp only [subl, List.drop_zero, Nat.zero_add] at this
    have e3 : List.take 3 [size, blocks, root] = [size, blocks, root] := rfl
    rw [e3] at this
    rw [this, List.flatMap_append, toI_toNat, Nat.zero_add]
    simp
   cbv
   refine .mk rf ?_
   cbv
   refine ⟨(i + 1, a2, ad2, sp2), show i + 1 ≤ 3 by omega, show 3 - (i + 1) < 3 - i by omega, sub2 [0, 1, 2, 4] 1 hb rfl rfl rfl rfl rfl rfl rfl rfl ?_⟩
   cbv
   exact rf
  ·replace hc := of_decide_eq_false hc
   have : i = 3 := by exact om
   subst this
   cbv
   have w4 : wr .u64 (toI pages.length) = toI pages.length := wr_u64 om om
   generalize hH : ([size, blocks, root].take 3).flatMap (leB · 4) = H
   have hHl : H.length = 12 := by rw [← hH, flatMap_leB_length]; rfl
   refine callP_eq (args' := [.sl 3 (fun _ => a') (fun _ => 0) (fun _ => 12) (fun _ => sp'), .int .u64 fun _ => toI pages.length, .int .i64 fun _ => toI 2])
    (hp' := [.arr ad (fun _ => pages.length) (fun _ => sp) [.nat .u32 fun _ => pages] false, .box b 78 [.int .u64 fun _ => toI gen, .int .i64 fun _ => toI size, .int .i64 fun _ => toI blocks, .int .u32 fun _ => toI root, .sl 0 (fun _ => a) (fun _ => 0) (fun _ => pages.length) (fun _ => ext)] true, .gone (some ⟨b1, 0, none⟩) 1, .arr ad' (fun _ => 12) (fun _ => sp') [.b8 fun _ => H] true]) [.one 0, .one 1, .one 2, .one 3] 1 hb rfl rfl (nodup_of rfl) rfl rfl rfl ?_ ?_
   ·cbv
    exact rf
   refine callP_by hΓ (octet_Put pages.length 2 H a' ad' 12 sp' (by omega) (by omega) hHl (by omega)) [3] (by simp) ⟨⟨_, rfl, .inl rfl⟩, trivial⟩ rfl ?_
   rintro x hp' ⟨a2, ad2, sp2, rfl, rfl⟩
   refine ⟨rfl, ?_⟩
   have hH2 : H ++ leB pages.length 2 = superH size blocks root pages.length := by rw [← hH]; simp [superH]
   generalize hS : superH size blocks root pages.length = S at hH2
   have hSl : S.length = 14 := by rw [← hH2]; simp [hHl]
   cbv
   refine loopJ (α := Nat × Option Addr × Option Addr × Nat) (fun (i, _, _, _) => i ≤ pages.length) (fun (i, a', ad', sp') => ⟨65, [(1, .bp 1 0), (5, .sl 2 (fun _ => a') (fun _ => 0) (fun _ => 14 + 4 * i) (fun _ => sp')), (43, .sl 0 (fun _ => a) (fun _ => 0) (fun _ => pages.length) (fun _ => ext)), (44, .int .i64 fun _ => toI pages.length), (45, .int .i64 fun _ => toI i)],
    [.arr ad (fun _ => pages.length) (fun _ => sp) [.nat .u32 fun _ => pages] false, .box b 78 [.int .u64 fun _ => toI gen, .int .i64 fun _ => toI size, .int .i64 fun _ => toI blocks, .int .u32 fun _ => toI root, .sl 0 (fun _ => a) (fun _ => 0) (fun _ => pages.length) (fun _ => ext)] true, .arr ad' (fun _ => 14 + 4 * i) (fun _ => sp') [.b8 fun _ => S ++ (pages.take i).flatMap (leB · 4)] true], []⟩) (fun (i, _, _, _) => pages.length - i) (0, a2, ad2, sp2) (Nat.zero_le _) (sub2 [0, 1, 4] 1 hb rfl rfl rfl rfl rfl rfl rfl rfl ?_) ?_
   ·cbv
    (repeat' first | with_reducible rfl | exact (show Ch.base _ = _ from rfl) | ((try simp only [toI, inI, List.length_nil] at *); omega) | exact trivial | refine ⟨?_, ?_⟩ | refine ⟨?_⟩ | intro _)
    rw [hH2]; simp
   ·rintro ⟨i, a', ad', sp'⟩ hi
    have hi : i ≤ pages.length := hi
    cbv
    refine ⟨fun hc => ?_, fun hc => ?_⟩
    ·replace hc := toI_lt hc
     have hmem : pages[i] ∈ pages := List.getElem_mem hc
     obtain ⟨q1, q2, q3⟩ := page _ hmem
     have hgd : pages.getD (0 + (toI i).toNat) 0 = pages[i] := by
      rw [toI_toNat, Nat.zero_add, List.getD_eq_getElem?_getD, List.getElem?_eq_getElem hc]; rfl
     have hnx : (pages.take i).flatMap (leB · 4) ++ leB pages[i] 4 = (pages.take (i + 1)).flatMap (leB · 4) := by
      rw [List.take_add_one, List.getElem?_eq_getElem hc, List.flatMap_append]
      simp
     have hY : (S ++ (pages.take i).flatMap (leB · 4)).length = 14 + 4 * i := by
      rw [List.length_append, flatMap_leB_length, hSl, List.length_take]; omega
     generalize hYY : S ++ (pages.take i).flatMap (leB · 4) = Y at hY
     generalize pages[i] = pi at hgd q1 q2 q3 hnx
     have w5 : wr .u64 (toI (pages.getD (0 + (toI i).toNat) 0)) = toI pi := by rw [hgd]; exact wr_u64 om om
     have hYX : Y ++ leB pi 4 = S ++ (pages.take (i + 1)).flatMap (leB · 4) := by rw [← hYY, List.append_assoc, hnx]
     cbv
     refine ⟨rf, ?_⟩
     cbv
     refine ⟨rf, ?_⟩
     cbv
     refine callP_eq (args' := [.sl 2 (fun _ => a') (fun _ => 0) (fun _ => 14 + 4 * i) (fun _ => sp'), .int .u64 fun _ => toI pi, .int .i64 fun _ => toI 4])
      (hp' := [.arr ad (fun _ => pages.length) (fun _ => sp) [.nat .u32 fun _ => pages] false, .box b 78 [.int .u64 fun _ => toI gen, .int .i64 fun _ => toI size, .int .i64 fun _ => toI blocks, .int .u32 fun _ => toI root, .sl 0 (fun _ => a) (fun _ => 0) (fun _ => pages.length) (fun _ => ext)] true, .arr ad' (fun _ => 14 + 4 * i) (fun _ => sp') [.b8 fun _ => Y] true]) [.one 0, .one 1, .one 2] 1 hb rfl rfl (nodup_of rfl) rfl rfl rfl ?_ ?_
     ·cbv
      exact rf
     refine callP_by hΓ (octet_Put pi 4 Y a' ad' (14 + 4 * i) sp' (by omega) (by omega) hY (by omega)) [2] (by simp) ⟨⟨_, rfl, .inl rfl⟩, trivial⟩ rfl ?_
     rintro x hp' ⟨a3, ad3, sp3, rfl, rfl⟩
     refine ⟨rfl, ?_⟩
     cbv
     refine .mk rf ?_
     cbv
     refine ⟨(i + 1, a3, ad3, sp3), show i + 1 ≤ pages.length by omega, show pages.length - (i + 1) < pages.length - i by omega, sub2 [0, 1, 3] 1 hb rfl rfl rfl rfl rfl rfl rfl rfl ?_⟩
     cbv
     exact rf
    ·replace hc := toI_nlt hc
     have : i = pages.length := by omega
     subst this
     have hSD : superD size blocks root pages = S ++ (pages.take pages.length).flatMap (leB · 4) := by rw [List.take_length, ← hS]; rfl
     generalize hSD2 : superD size blocks root pages = SD at hSD
     have hSDl : SD.length = 14 + 4 * pages.length := by rw [← hSD2, superD_length]
     cbv
     refine ⟨rf, ?_⟩
     cbv
     refine callP_eq (args' := [.int .i64 fun _ => toI size, .agg [.int .u8 fun _ => toI 1, .int .u64 fun _ => toI gen, .str fun _ => SD]])
      (hp' := [.arr ad (fun _ => pages.length) (fun _ => sp) [.nat .u32 fun _ => pages] false, .box b 78 [.int .u64 fun _ => toI gen, .int .i64 fun _ => toI size, .int .i64 fun _ => toI blocks, .int .u32 fun _ => toI root, .sl 0 (fun _ => a) (fun _ => 0) (fun _ => pages.length) (fun _ => ext)] true, .gone ad' 1]) [.one 0, .one 1, .one 2] 1 hb rfl rfl (nodup_of rfl) rfl rfl rfl ?_ ?_
     ·cbv
      (repeat' first | with_reducible rfl | exact (show Ch.base _ = _ from rfl) | ((try simp only [toI, inI, List.length_nil] at *); omega) | exact trivial | refine ⟨?_, ?_⟩ | refine ⟨?_⟩ | intro _)
      rw [hSD, List.drop_zero, List.take_of_length_le]
      rw [← hSD, hSDl]; omega
     refine callP_by hΓ (frame_Put size 1 gen SD ⟨g1, g2, geo.h3, by omega, by omega⟩ (by omega) gen2 (by omega)) [] (by simp) trivial rfl ?_
     rintro x hp' ⟨rfl, rfl⟩
     refine ⟨rfl, ?_⟩
     have hSB : superB size blocks gen root pages = frameB size 1 gen SD := by rw [← hSD2]; rfl
     generalize hSB2 : superB size blocks gen root pages = SB at hSB
     cbv
     refine Cl.take 1 (.tup [.str fun _ => SB, .int .i64 fun _ => 0]) hb rfl rfl ?_ rfl ⟨rfl, rfl⟩
     cbv
     exact ⟨⟨hSB.symm⟩, ⟨rfl⟩, trivial⟩
def cBytes (c : List Nat) : Bytes := c.flatMap (leB · 2)
def cPages (size : Nat) (c : List Nat) : List Bytes := (List.range ((c.length + (size - 16) / 2 - 1) / ((size - 16) / 2))).map fun k => cBytes (subl c (k * ((size - 16) / 2)) (min ((size - 16) / 2) (c.length - k * ((size - 16) / 2))))
theorem counts_Pages (b size blocks : Nat) (c : List Nat) (g : GeoOk size 8) (hc : CountsOk c) (hc1 : 1 ≤ c.length) :
  FnSpec Tryz.prog 116 [.res fun _ => CountsR b size blocks c] [.pt fun _ => ⟨b, 0, none⟩]
   (fun v hp => ∃ (a ad : Option Addr) (sp : Nat), v = .sl 1 (fun _ => a) (fun _ => 0) (fun _ => (cPages size c).length) (fun _ => sp) ∧ hp = [.res fun _ => CountsR b size blocks c, .arr ad (fun _ => (cPages size c).length) (fun _ => sp) [.str fun _ => cPages size c] true]) := by
 have g1 := g.h1
 have g2 := g.h2
 have hl := hc.len
 refine spec_by mixed F116 rfl rfl rfl (fun (q : Nat × Option Addr × Option Addr × Nat) => [.gone none 1, .box b q.1 [.int .i64 fun _ => toI size, .int .i64 fun _ => toI blocks, .sl 2 (fun _ => q.2.1) (fun _ => 0) (fun _ => c.length) (fun _ => q.2.2.2)] true,
  .arr q.2.2.1 (fun _ => c.length) (fun _ => q.2.2.2) [.nat .u16 fun _ => c] true]) (fun _ => [.bp 1 0]) (fun q => rfl) (fun q => rfl) (fun Γ w h => open_pack (k := 0) h rfl) ?_
 rintro ⟨ty, a, ad, ext⟩ Γ hΓ hb
 cbv
 intro bt
 cbv
 refine callP_by hΓ (frame_Room size g) [] (by simp) trivial rfl ?_
 rintro x hp' ⟨rfl, rfl⟩
 refine ⟨rfl, ?_⟩
 cbv
 refine ⟨rfl, ?_⟩
 cbv
 have hq : (toI (size - 16)).tdiv 2 = toI ((size - 16) / 2) := by
  simp only [toI]
  rw [Int.tdiv_eq_ediv_of_nonneg (by omega)]
  exact (Int.natCast_ediv (size - 16) 2).symm
 refine ⟨⟨by omega, by rw [hq]; exact om⟩, ?_⟩
 cbv
 obtain ⟨h, hh⟩ : ∃ h, (size - 16) / 2 = h := ⟨_, rfl⟩
 have hh1 : 1 ≤ h := by omega
 have hh2 : h ≤ 4096 := by omega
 rw [hh] at hq
 refine callP_eq (args' := [.sl 2 (fun _ => a) (fun _ => 0) (fun _ => c.length) (fun _ => ext), .int .i64 fun _ => toI h]) (hp' := [.gone none 1, .box b ty [.int .i64 fun _ => toI size, .int .i64 fun _ => toI blocks, .sl 2 (fun _ => a) (fun _ => 0) (fun _ => c.length) (fun _ => ext)] true,
  .arr ad (fun _ => c.length) (fun _ => ext) [.nat .u16 fun _ => c] true, .box bt 137 [.nils] true]) [.one 0, .one 1, .one 2, .one 3] 1 hb rfl rfl (nodup_of rfl) rfl rfl rfl ?_ ?_
 ·cbv
  exact rf
 refine callP_by hΓ (chunk_u160 ad a c.length ext 0 c.length ext h c hh1) [2] (by simp) ⟨⟨_, rfl, .inr ⟨rfl, rfl⟩⟩, trivial⟩ rfl ?_
 rintro x hp' ⟨b1, b2, rfl, rfl⟩
 refine ⟨rfl, ?_⟩
 cbv
 refine ⟨_, fun _ _ h => h, ?_⟩
 cbv
 have hpg : cPages size c = (List.range ((c.length + h - 1) / h)).map fun k => cBytes (subl c (k * h) (min h (c.length - k * h))) := by unfold cPages; rw [hh]
 generalize hPG : cPages size c = PG at hpg
 have hPl : PG.length = (c.length + h - 1) / h := by rw [hpg]; simp
 have hN1 : (c.length + h - 1) / h ≤ c.length := chk_ge c.length h c.length hh1 (Nat.le_mul_of_pos_right _ hh1)
 have hN2 : 1 ≤ (c.length + h - 1) / h := by have := chk_lt c.length h 0 hh1 (by omega); omega
 refine RangeP0.to ?_
 refine ⟨[4, 5, 2, 7, 3], [.box b1 181 [.sl 2 (fun _ => a) (fun _ => 0) (fun _ => c.length) (fun _ => ext)] true, .box b2 3 [.int .i64 fun _ => toI h] true, .arr ad (fun _ => c.length) (fun _ => ext) [.nat .u16 fun _ => c] false], [.box bt 137 [.nils] true], [(2, .bp 4 0)], [], [.bp 0 0, .bp 1 0],
  by simp, rfl, rfl, ⟨rfl, trivial⟩, rfl, by simp, fun rd rr => ⟨⟨_, rfl, .inl rfl⟩, ⟨_, rfl, .inl rfl⟩, ⟨_, rfl, .inr ⟨rfl, rfl⟩⟩, ⟨_, rfl, .inl rfl⟩, ⟨_, rfl, .inl rfl⟩, trivial⟩, ?_⟩
 refine ⟨Option (Option Addr × Option Addr × Nat × Nat), Empty, fun k q => match q with | none => k = 0 | some (_, _, _, j) => j = k ∧ 1 ≤ k, fun q => match q with
   | none => [.box bt 137 [.nils] true]
   | some (q1, q2, q3, j) => [.box bt 137 [.sl 5 (fun _ => q1) (fun _ => 0) (fun _ => j) (fun _ => q3)] true, .arr q2 (fun _ => j) (fun _ => q3) [.str fun _ => PG.take j] true],
  fun e => e.elim, fun e => e.elim, _, none,
  hΓ ▸ chunk_u16 ad a c.length ext 0 c.length ext h b1 b2 181 3 c rfl (by omega) (by omega) hh1 (by omega), ?_, rfl, rfl, ?_, fun e => e.elim, ?_, ?_, fun e => e.elim⟩
 ·intro xs hx
  obtain ⟨k, _, rfl⟩ := List.mem_map.1 hx
  rfl
 ·rintro (_ | ⟨q1, q2, q3, j⟩)
  ·exact ⟨rfl, rfl, [], rfl⟩
  ·exact ⟨rfl, rfl, _, rfl⟩
 ·rintro k q xs Γ' r1 r2 hk hq hΓ' hb'
  have hΓ' : Γ'.P = Tryz.prog := hΓ'.trans hΓ
  have hkl : k < (c.length + h - 1) / h := by
   have := (List.getElem?_eq_some_iff.1 hk).1
   simpa using this
  have hxs : xs = chk 0 c.length h k := by
   rw [List.getElem?_map, List.getElem?_range hkl] at hk
   exact (Option.some.inj hk).symm
  obtain ⟨n, hn⟩ : ∃ n, c.length = n := ⟨_, rfl⟩
  rw [hn] at hxs
  subst hxs
  have hk2 : k * h < c.length := by
   have := chk_le c.length h (k + 1) hh1 (by omega)
   rw [Nat.succ_mul] at this
   omega
  have hPk : PG.take (k + 1) = PG.take k ++ [cBytes (subl c (k * h) (min h (c.length - k * h)))] := by
   rw [hpg, ← List.map_take, ← List.map_take]
   have : List.take (k + 1) (List.range ((c.length + h - 1) / h)) = List.take k (List.range ((c.length + h - 1) / h)) ++ [k] := by
    rw [List.take_add_one, List.getElem?_range hkl]; rfl
   rw [this]; simp
  obtain ⟨off, hkh⟩ : ∃ off, k * h = off := ⟨_, rfl⟩
  obtain ⟨m, hmm⟩ : ∃ m, min h (c.length - k * h) = m := ⟨_, rfl⟩
  have hmo : off + m ≤ c.length := by omega
  have hm1 : m ≤ 4096 := by omega
  rw [hkh] at hPk hmm
  rw [hmm] at hPk
  rw [hn] at hmm
  cases q with
  | none =>
   cbv
   refine ⟨⟨rfl⟩, ?_⟩
   refine loopJ (α := Nat × Option Addr × Option Addr × Nat) (fun (i, _, _, _) => i ≤ m) (fun (i, a', ad', sp') => ⟨39, [(2, .bp 4 0), (4, .sl 5 (fun _ => a') (fun _ => 0) (fun _ => 2 * i) (fun _ => sp')), (22, .sl 2 (fun _ => none) (fun _ => off) (fun _ => m) (fun _ => 0)), (23, .int .i64 fun _ => toI m), (24, .int .i64 fun _ => toI i)],
    [.box b1 181 [.sl 2 (fun _ => a) (fun _ => 0) (fun _ => c.length) (fun _ => ext)] true, .box b2 3 [.int .i64 fun _ => toI h] true, .arr ad (fun _ => c.length) (fun _ => ext) [.nat .u16 fun _ => c] false, .res fun _ => r2,  .box bt 137 [.nils] true, .arr ad' (fun _ => 2 * i) (fun _ => sp') [.b8 fun _ => cBytes (subl c off i)] true], []⟩) (fun (i, _, _, _) => m - i) (0, none, none, 0) (Nat.zero_le _) (Sub.nil [.b8] (sub2 [0, 1, 2, 3, 4, 5] 4 hb' rfl rfl rfl rfl rfl rfl rfl rfl ?_)) ?_
   ·cbv
    (repeat' first | with_reducible rfl | exact (show Ch.base _ = _ from rfl) | ((try simp only [toI, inI, List.length_nil] at *); omega) | exact trivial | refine ⟨?_, ?_⟩ | refine ⟨?_⟩ | intro _)
    all_goals first | exact hkh | (rw [hkh]; exact hmm) | (rw [hkh, hmm]) | rfl | trace_state
   ·rintro ⟨i, a', ad', sp'⟩ hi
    have hi : i ≤ m := hi
    cbv
    refine ⟨fun hcc => ?_, fun hcc => ?_⟩
    ·replace hcc := toI_lt hcc
     have hnx : cBytes (subl c off i) ++ leB (c.getD (off + i) 0) 2 = cBytes (subl c off (i + 1)) := by
      have e := subl_take c off m i (by omega) hcc 0
      have e1 : (subl c off m).take (i + 1) = subl c off (i + 1) := by simp [subl, List.take_take]; omega
      have e2 : (subl c off m).take i = subl c off i := by simp [subl, List.take_take]; omega
      rw [e1, e2] at e
      rw [e]
      simp [cBytes]
     have hYl : (cBytes (subl c off i)).length = 2 * i := by
      unfold cBytes
      rw [flatMap_leB_length, subl_length c off i (by omega)]
     have hx := hc.getD (off + i)
     generalize hcg : c.getD (off + i) 0 = cv at hnx hx
     have hcg2 : wr .u64 (toI (c.getD (off + (toI i).toNat) 0)) = toI cv := by rw [toI_toNat, hcg]; exact wr_u64 om om
     cbv
     refine ⟨rf, ?_⟩
     cbv
     refine ⟨rf, ?_⟩
     cbv
     refine callP_eq (args' := [.sl 5 (fun _ => a') (fun _ => 0) (fun _ => 2 * i) (fun _ => sp'), .int .u64 fun _ => toI cv, .int .i64 fun _ => toI 2])
      (hp' := [.box b1 181 [.sl 2 (fun _ => a) (fun _ => 0) (fun _ => c.length) (fun _ => ext)] true, .box b2 3 [.int .i64 fun _ => toI h] true, .arr ad (fun _ => c.length) (fun _ => ext) [.nat .u16 fun _ => c] false, .res fun _ => r2,  .box bt 137 [.nils] true, .arr ad' (fun _ => 2 * i) (fun _ => sp') [.b8 fun _ => cBytes (subl c off i)] true]) [.one 0, .one 1, .one 2, .one 3, .one 4, .one 5] 4 hb' rfl rfl (nodup_of rfl) rfl rfl rfl ?_ ?_
     ·cbv
      (repeat' first | with_reducible rfl | exact (show Ch.base _ = _ from rfl) | ((try simp only [toI, inI, List.length_nil] at *); omega) | exact trivial | refine ⟨?_, ?_⟩ | refine ⟨?_⟩ | intro _)
      all_goals exact hcg2
     refine callP_by hΓ' (octet_Put cv 2 (cBytes (subl c off i)) a' ad' (2 * i) sp' (by omega) (by omega) hYl (by omega)) [5] (by simp) ⟨⟨_, rfl, .inl rfl⟩, trivial⟩ rfl ?_
     rintro x hp' ⟨a3, ad3, sp3, rfl, rfl⟩
     refine ⟨rfl, ?_⟩
     cbv
     refine .mk rf ?_
     cbv
     refine ⟨(i + 1, a3, ad3, sp3), show i + 1 ≤ m by omega, show m - (i + 1) < m - i by omega, sub2 [0, 1, 2, 3, 4, 6] 4 hb' rfl rfl rfl rfl rfl rfl rfl rfl ?_⟩
     cbv
     (repeat' first | with_reducible rfl | exact (show Ch.base _ = _ from rfl) | ((try simp only [toI, inI, List.length_nil] at *); omega) | exact trivial | refine ⟨?_, ?_⟩ | refine ⟨?_⟩ | intro _)
     all_goals exact hnx
    ·replace hcc := toI_nlt hcc
     have : i = m := by omega
     subst this
     cbv
     refine ⟨rf, ?_⟩
     cbv
     refine ⟨⟨trivial, trivial⟩, fun b3 => ?_⟩
     cbv
     refine ⟨rf, fun a3 e3 => ?_⟩
     cbv
     refine RoundTo.by [.box bt 137 [.sl 5 (fun _ => a3) (fun _ => 0) (fun _ => k + 1) (fun _ => e3)] true, .arr a3 (fun _ => k + 1) (fun _ => e3) [.str fun _ => PG.take (k + 1)] true] [.one 0, .one 1, .one 2, .one 3, .one 4, .one 7] 4 hb' rfl rfl (nodup_of rfl) rfl ?_ ⟨some (a3, a3, e3, k + 1), ⟨rfl, by omega⟩, rfl⟩
     have hk0 : k = 0 := hq
     have hYl : (cBytes (subl c off i)).length = 2 * i := by
      unfold cBytes
      rw [flatMap_leB_length, subl_length c off i (by omega)]
     subst hk0
     have hfin : List.take 1 (List.drop 0 [List.take (2 * i) (List.drop 0 (cBytes (subl c off i)))]) = PG.take (0 + 1) := by
      rw [hPk, List.drop_zero, List.drop_zero, List.take_of_length_le (l := cBytes (subl c off i)) (by omega)]
      simp
     cbv
     exact ⟨⟨⟨rfl, rfl⟩, ⟨rfl, rfl, rfl, fun _ => rfl⟩, trivial⟩, ⟨⟨rfl, rfl⟩, ⟨rfl⟩, trivial⟩, ⟨⟨rfl, rfl, rfl⟩, ⟨rfl⟩, trivial⟩, ⟨rfl⟩, ⟨⟨rfl, rfl⟩, ⟨rfl, rfl, rfl, fun _ => rfl⟩, trivial⟩, ⟨⟨rfl, rfl, rfl⟩, ⟨hfin⟩, trivial⟩, trivial⟩
  | some q =>
   obtain ⟨q1, q2, q3, j⟩ := q
   obtain ⟨rfl, hk1⟩ := hq
   generalize hpk : PG.take j = pk at hPk
   cbv
   refine ⟨⟨rfl⟩, ?_⟩
   refine loopJ (α := Nat × Option Addr × Option Addr × Nat) (fun (i, _, _, _) => i ≤ m) (fun (i, a', ad', sp') => ⟨39, [(2, .bp 4 0), (4, .sl 6 (fun _ => a') (fun _ => 0) (fun _ => 2 * i) (fun _ => sp')), (22, .sl 2 (fun _ => none) (fun _ => off) (fun _ => m) (fun _ => 0)), (23, .int .i64 fun _ => toI m), (24, .int .i64 fun _ => toI i)],
    [.box b1 181 [.sl 2 (fun _ => a) (fun _ => 0) (fun _ => c.length) (fun _ => ext)] true, .box b2 3 [.int .i64 fun _ => toI h] true, .arr ad (fun _ => c.length) (fun _ => ext) [.nat .u16 fun _ => c] false, .res fun _ => r2,  .box bt 137 [.sl 5 (fun _ => q1) (fun _ => 0) (fun _ => j) (fun _ => q3)] true, .arr q2 (fun _ => j) (fun _ => q3) [.str fun _ => pk] true, .arr ad' (fun _ => 2 * i) (fun _ => sp') [.b8 fun _ => cBytes (subl c off i)] true], []⟩) (fun (i, _, _, _) => m - i) (0, none, none, 0) (Nat.zero_le _) (Sub.nil [.b8] (sub2 [0, 1, 2, 3, 4, 5, 6] 4 hb' rfl rfl rfl rfl rfl rfl rfl rfl ?_)) ?_
   ·cbv
    (repeat' first | with_reducible rfl | exact (show Ch.base _ = _ from rfl) | ((try simp only [toI, inI, List.length_nil] at *); omega) | exact trivial | refine ⟨?_, ?_⟩ | refine ⟨?_⟩ | intro _)
    all_goals first | exact hkh | (rw [hkh]; exact hmm) | (rw [hkh, hmm]) | rfl | trace_state
   ·rintro ⟨i, a', ad', sp'⟩ hi
    have hi : i ≤ m := hi
    cbv
    refine ⟨fun hcc => ?_, fun hcc => ?_⟩
    ·replace hcc := toI_lt hcc
     have hnx : cBytes (subl c off i) ++ leB (c.getD (off + i) 0) 2 = cBytes (subl c off (i + 1)) := by
      have e := subl_take c off m i (by omega) hcc 0
      have e1 : (subl c off m).take (i + 1) = subl c off (i + 1) := by simp [subl, List.take_take]; omega
      have e2 : (subl c off m).take i = subl c off i := by simp [subl, List.take_take]; omega
      rw [e1, e2] at e
      rw [e]
      simp [cBytes]
     have hYl : (cBytes (subl c off i)).length = 2 * i := by
      unfold cBytes
      rw [flatMap_leB_length, subl_length c off i (by omega)]
     have hx := hc.getD (off + i)
     generalize hcg : c.getD (off + i) 0 = cv at hnx hx
     have hcg2 : wr .u64 (toI (c.getD (off + (toI i).toNat) 0)) = toI cv := by rw [toI_toNat, hcg]; exact wr_u64 om om
     cbv
     refine ⟨rf, ?_⟩
     cbv
     refine ⟨rf, ?_⟩
     cbv
     refine callP_eq (args' := [.sl 6 (fun _ => a') (fun _ => 0) (fun _ => 2 * i) (fun _ => sp'), .int .u64 fun _ => toI cv, .int .i64 fun _ => toI 2])
      (hp' := [.box b1 181 [.sl 2 (fun _ => a) (fun _ => 0) (fun _ => c.length) (fun _ => ext)] true, .box b2 3 [.int .i64 fun _ => toI h] true, .arr ad (fun _ => c.length) (fun _ => ext) [.nat .u16 fun _ => c] false, .res fun _ => r2,  .box bt 137 [.sl 5 (fun _ => q1) (fun _ => 0) (fun _ => j) (fun _ => q3)] true, .arr q2 (fun _ => j) (fun _ => q3) [.str fun _ => pk] true, .arr ad' (fun _ => 2 * i) (fun _ => sp') [.b8 fun _ => cBytes (subl c off i)] true]) [.one 0, .one 1, .one 2, .one 3, .one 4, .one 5, .one 6] 4 hb' rfl rfl (nodup_of rfl) rfl rfl rfl ?_ ?_
     ·cbv
      (repeat' first | with_reducible rfl | exact (show Ch.base _ = _ from rfl) | ((try simp only [toI, inI, List.length_nil] at *); omega) | exact trivial | refine ⟨?_, ?_⟩ | refine ⟨?_⟩ | intro _)
      all_goals exact hcg2
     refine callP_by hΓ' (octet_Put cv 2 (cBytes (subl c off i)) a' ad' (2 * i) sp' (by omega) (by omega) hYl (by omega)) [6] (by simp) ⟨⟨_, rfl, .inl rfl⟩, trivial⟩ rfl ?_
     rintro x hp' ⟨a3, ad3, sp3, rfl, rfl⟩
     refine ⟨rfl, ?_⟩
     cbv
     refine .mk rf ?_
     cbv
     refine ⟨(i + 1, a3, ad3, sp3), show i + 1 ≤ m by omega, show m - (i + 1) < m - i by omega, sub2 [0, 1, 2, 3, 4, 5, 7] 4 hb' rfl rfl rfl rfl rfl rfl rfl rfl ?_⟩
     cbv
     (repeat' first | with_reducible rfl | exact (show Ch.base _ = _ from rfl) | ((try simp only [toI, inI, List.length_nil] at *); omega) | exact trivial | refine ⟨?_, ?_⟩ | refine ⟨?_⟩ | intro _)
     all_goals exact hnx
    ·replace hcc := toI_nlt hcc
     have : i = m := by omega
     subst this
     cbv
     refine ⟨rf, ?_⟩
     cbv
     refine ⟨⟨trivial, trivial⟩, fun b3 => ?_⟩
     cbv
     refine .any ⟨rf, fun a3 a4 e3 _ => ?_⟩
     cbv
     refine RoundTo.by [.box bt 137 [.sl 5 (fun _ => a4) (fun _ => 0) (fun _ => j + 1) (fun _ => e3)] true, .arr a3 (fun _ => j + 1) (fun _ => e3) [.str fun _ => PG.take (j + 1)] true] [.one 0, .one 1, .one 2, .one 3, .one 4, .one 8] 4 hb' rfl rfl (nodup_of rfl) rfl ?_ ⟨some (a4, a3, e3, j + 1), ⟨rfl, by omega⟩, rfl⟩
     have hYl : (cBytes (subl c off i)).length = 2 * i := by
      unfold cBytes
      rw [flatMap_leB_length, subl_length c off i (by omega)]
     have hpl : pk.length = j := by rw [← hpk, List.length_take, hPl]; omega
     have hfin : List.take j (List.drop 0 pk) ++ List.take 1 (List.drop 0 [List.take (2 * i) (List.drop 0 (cBytes (subl c off i)))]) = PG.take (j + 1) := by
      rw [hPk, List.drop_zero, List.drop_zero, List.drop_zero, List.take_of_length_le (by omega), List.take_of_length_le (l := [_]) (by simp), List.take_of_length_le (by omega)]
     cbv
     exact ⟨⟨⟨rfl, rfl⟩, ⟨rfl, rfl, rfl, fun _ => rfl⟩, trivial⟩, ⟨⟨rfl, rfl⟩, ⟨rfl⟩, trivial⟩, ⟨⟨rfl, rfl, rfl⟩, ⟨rfl⟩, trivial⟩, ⟨rfl⟩, ⟨⟨rfl, rfl⟩, ⟨rfl, rfl, rfl, fun _ => rfl⟩, trivial⟩, ⟨⟨rfl, rfl, rfl⟩, ⟨hfin⟩, trivial⟩, trivial⟩
 ·intro q hq d rr r'
  cases q with
  | none =>
   exfalso
   have hq : ((List.range ((c.length + h - 1) / h)).map (chk 0 c.length h)).length = 0 := hq
   rw [List.length_map, List.length_range] at hq
   omega
  | some q =>
   obtain ⟨q1, q2, q3, j⟩ := q
   obtain ⟨hj, hj1⟩ := hq
   have hj : j = ((List.range ((c.length + h - 1) / h)).map (chk 0 c.length h)).length := hj
   rw [List.length_map, List.length_range, ← hPl] at hj
   refine ⟨rfl, ?_⟩
   have hPj : PG.take j = PG := by rw [hj, List.take_length]
   cbv
   refine ⟨rfl, ?_⟩
   cbv
   refine Cl.by (v' := .sl 1 (fun _ => q1) (fun _ => 0) (fun _ => PG.length) (fun _ => q3)) (hp' := [.res fun _ => CountsR b size blocks c, .arr q2 (fun _ => PG.length) (fun _ => q3) [.str fun _ => PG] true]) [.pack 0 [1, 2], .one 8] 1 hb rfl rfl (nodup_of rfl) rfl
    ⟨⟨_, _, (ty, a, ad, ext), rfl, rfl, rfl, rfl, ?_, rfl⟩, ?_⟩ rfl ?_ ⟨q1, q2, q3, rfl, rfl⟩
   ·cbv
    exact rf
   ·cbv
    (repeat' first | with_reducible rfl | exact (show Ch.base _ = _ from rfl) | ((try simp only [toI, inI, List.length_nil] at *); omega) | exact trivial | refine ⟨?_, ?_⟩ | refine ⟨?_⟩ | intro _)
    all_goals first | exact hj | exact hPj
   ·cbv
    (repeat' first | with_reducible rfl | exact (show Ch.base _ = _ from rfl) | ((try simp only [toI, inI, List.length_nil] at *); omega) | exact trivial | refine ⟨?_, ?_⟩ | refine ⟨?_⟩ | intro _)
    all_goals exact hj
end Go.Proofs.YtfoffehokhkohaaGreat
set_option maxRecDepth 20000
namespace Go.Proofs.YtfoffehokhkohaaGreat
open Go
structure Page where
 tag : Nat
 kids : List Nat
 data : Bytes
structure Sp where
 size : Nat
 blocks : Nat
 gen : Nat
 root : Nat
 slot : Nat
 sup : List Nat
 held : List Nat
 now : List Nat
 dur : List Bytes
 pend : List (Nat × Bytes)
structure SpQ where
 ty : Nat
 a : Option Addr
 ad : Option Addr
 e : Nat
 hb : Nat
 nb : Nat
def spL (b db : Nat) (σ : Sp) (q : SpQ) : List Ch :=
 [.box b q.ty [.pt fun _ => ⟨db, 0, none⟩, .int .u64 fun _ => toI σ.gen, .int .i64 fun _ => toI σ.size, .int .i64 fun _ => toI σ.blocks, .int .u32 fun _ => toI σ.root, .sl 1 (fun _ => q.a) (fun _ => 0) (fun _ => σ.sup.length) (fun _ => q.e), .int .i64 fun _ => toI σ.slot, .pt fun _ => ⟨q.hb, 0, none⟩, .pt fun _ => ⟨q.nb, 0, none⟩, .nilp] true,
  .arr q.ad (fun _ => σ.sup.length) (fun _ => q.e) [.nat .u32 fun _ => σ.sup] true, .res fun _ => CountsR q.hb σ.size σ.blocks σ.held, .res fun _ => CountsR q.nb σ.size σ.blocks σ.now, .res fun _ => DevR db σ.size σ.blocks σ.dur σ.pend]
def SpaceR (b db : Nat) (σ : Sp) : RP := Pack (spL b db σ)
def spO (b db : Nat) (σ : Sp) (q : SpQ) : List Ch :=
 [.gone none 1, .box b q.ty [.pt fun _ => ⟨db, 0, none⟩, .int .u64 fun _ => toI σ.gen, .int .i64 fun _ => toI σ.size, .int .i64 fun _ => toI σ.blocks, .int .u32 fun _ => toI σ.root, .sl 2 (fun _ => q.a) (fun _ => 0) (fun _ => σ.sup.length) (fun _ => q.e), .int .i64 fun _ => toI σ.slot, .pt fun _ => ⟨q.hb, 0, none⟩, .pt fun _ => ⟨q.nb, 0, none⟩, .nilp] true,
  .arr q.ad (fun _ => σ.sup.length) (fun _ => q.e) [.nat .u32 fun _ => σ.sup] true, .res fun _ => CountsR q.hb σ.size σ.blocks σ.held, .res fun _ => CountsR q.nb σ.size σ.blocks σ.now, .res fun _ => DevR db σ.size σ.blocks σ.dur σ.pend]
theorem sp_fin {Γ : Ctx} (hb : Γ.b0.length = 1) {R : KV} {v v' : SV} {hp : List Ch} {b db : Nat} {σ : Sp} (q : SpQ) (ht : hp.take 6 = spO b db σ q) (hl : Nat.ble 6 hp.length = true)
  (hvh : v.hs 6 = true) (hv : eqV v (v'.ren [0])) (hs : v'.hs 1 = true) (h : R v' [.res fun _ => SpaceR b db σ]) : Cl Γ R v hp := by
 have h2 : Cl Γ R v (spO b db σ q) := by
  refine Cl.by (v' := v') (hp' := [.res fun _ => SpaceR b db σ]) [.pack 0 [1, 2, 3, 4, 5]] 1 hb rfl rfl (nodup_of rfl) rfl ⟨⟨_, _, q, rfl, rfl, rfl, rfl, ?_, rfl⟩, trivial⟩ hs hv h
  cbv
  exact rf
 obtain ⟨v2, hp2, g1, g2, g3⟩ := h2.h
 refine ⟨⟨v2, hp2, fun w hd => ?_, g2, g3⟩⟩
 have hc : hsCL 6 (hp.take 6) = true := by rw [ht]; rfl
 have hd4 := hd.takeC 6 (by omega) hc
 rw [ht] at hd4
 obtain ⟨k1, k2⟩ := g1 w hd4
 refine ⟨k1, ?_⟩
 rw [← k2]
 have hb2 : bases hp = bases (hp.take 6) ++ bases (hp.drop 6) := by rw [← bases_append, List.take_append_drop]
 have hl := Nat.le_of_ble_eq_true hl
 rw [hb2, den_ext _ _ v (by simpa [Nat.min_eq_left hl] using hvh), ht]
structure SpOk (σ : Sp) : Prop where
 geo : GeoOk σ.size σ.blocks
 gen : σ.gen < 9223372036854775808
 root : σ.root < 4294967296
 slot : σ.slot < 2
 sup : σ.sup.length = superN σ.size σ.blocks
 supn : ∀ n ∈ σ.sup, 2 ≤ n ∧ n < σ.blocks
 held : CountsOk σ.held
 now : CountsOk σ.now
 hl : σ.held.length = σ.blocks
 nl : σ.now.length = σ.blocks
 dl : σ.dur.length = σ.blocks
 pl : σ.pend.length < 900000000
 pn : ∀ p ∈ σ.pend, p.1 < σ.blocks
theorem SpOk.b4 {σ : Sp} (h : SpOk σ) : σ.blocks ≤ 4096 := h.geo.h5
theorem SpOk.sup4 {σ : Sp} (h : SpOk σ) : σ.sup.length ≤ 20000 := by
 rw [h.sup]
 have := h.geo.h5
 have := h.geo.h2
 have : superN σ.size σ.blocks ≤ 2 * σ.blocks + (σ.size - 16) - 1 := Nat.div_le_self _ _
 omega
def spAsked (σ : Sp) (n : Nat) : Bool := decide (2 ≤ n) && (decide (n < σ.blocks) && !σ.sup.contains n)
theorem space_asked (b db n : Nat) (σ : Sp) (q : SpQ) (hn : n < 4294967296) (h : SpOk σ) :
  FnSpec Tryz.prog 50 (spL b db σ q) [.bp 0 0, .int .u32 fun _ => toI n] (fun v hp => v = .bl (fun _ => spAsked σ n) ∧ hp = spL b db σ q) := by
 have hb4 := h.b4
 have hs4 := h.sup4
 refine spec_cl mixed F50 rfl rfl rfl (fun Γ hΓ hb => ?_)
 have e1 : wr .u64 (toI n) = toI n := wr_u64 om om
 have e2 : wr .u64 (toI σ.blocks) = toI σ.blocks := wr_u64 om om
 have hsl : subl σ.sup 0 σ.sup.length = σ.sup := by simp [subl]
 cbv
 refine ⟨fun h1 => ?_, fun h1 => ?_⟩
 ·have h1 := of_decide_eq_true h1
  have h1' : 2 ≤ n := by exact om
  cbv
  refine ⟨fun h2 => ?_, fun h2 => ?_⟩
  ·have h2 := of_decide_eq_true h2
   have h2' : n < σ.blocks := by rw [e1, e2] at h2; exact om
   cbv
   refine callP_by hΓ (slices_Contains q.ad q.a σ.sup.length q.e 0 σ.sup.length q.e n σ.sup rfl (by omega) (by omega)) [1] (by simp) ⟨⟨_, rfl, .inr ⟨rfl, rfl⟩⟩, trivial⟩ rfl ?_
   rintro x hp' ⟨rfl, rfl⟩
   refine ⟨rfl, ?_⟩
   cbv
   refine Cl.take 5 (.bl fun _ => spAsked σ n) hb rfl rfl ⟨?_⟩ rfl ⟨rfl, rfl⟩
   show (!(subl σ.sup 0 σ.sup.length).contains n) = spAsked σ n
   rw [hsl]
   unfold spAsked
   rw [decide_eq_true h1', decide_eq_true h2']
   rfl
  ·have h2 := of_decide_eq_false h2
   have h2' : ¬ n < σ.blocks := by rw [e1, e2] at h2; exact om
   cbv
   refine Cl.take 5 (.bl fun _ => spAsked σ n) hb rfl rfl ⟨?_⟩ rfl ⟨rfl, rfl⟩
   show spAsked σ n = false
   unfold spAsked
   rw [decide_eq_false h2']
   simp
 ·have h1 := of_decide_eq_false h1
  have h1' : ¬ 2 ≤ n := by exact om
  cbv
  refine Cl.take 5 (.bl fun _ => spAsked σ n) hb rfl rfl ⟨?_⟩ rfl ⟨rfl, rfl⟩
  show spAsked σ n = false
  unfold spAsked
  rw [decide_eq_false h1']
  simp
def spRoom (σ : Sp) (k : Nat) : Nat := if (σ.size - 18) / 4 < k then 0 else σ.size - 18 - 4 * k
theorem space_Room (b db k : Nat) (σ : Sp) (q : SpQ) (hk : k < 1000000000) (h : SpOk σ) :
  FnSpec Tryz.prog 53 (spL b db σ q) [.bp 0 0, .int .i64 fun _ => toI k] (fun v hp => v = .int .i64 (fun _ => toI (spRoom σ k)) ∧ hp = spL b db σ q) := by
 have g := h.geo
 have g1 := g.h1
 have g2 := g.h2
 refine spec_cl mixed F53 rfl rfl rfl (fun Γ hΓ hb => ?_)
 cbv
 refine callP_by hΓ (frame_Room σ.size ⟨g1, g2, g.h3, by omega, by omega⟩) [] (by simp) trivial rfl ?_
 rintro x hp' ⟨rfl, rfl⟩
 refine ⟨rfl, ?_⟩
 cbv
 refine ⟨rf, ?_⟩
 cbv
 refine .no (decide_eq_false om) ?_
 cbv
 have hq : (toI (σ.size - 16) - 2).tdiv 4 = toI ((σ.size - 18) / 4) := by
  simp only [toI]
  rw [Int.tdiv_eq_ediv_of_nonneg (by omega), Int.natCast_ediv]
  congr 1
  omega
 refine ⟨⟨by omega, by rw [hq]; exact om⟩, ?_⟩
 cbv
 refine ⟨fun h1 => ?_, fun h1 => ?_⟩
 ·have h1 := of_decide_eq_true h1
  rw [hq] at h1
  have hr : spRoom σ k = 0 := if_pos om
  cbv
  exact Cl.take 5 (.int .i64 fun _ => toI (spRoom σ k)) hb rfl rfl ⟨by rw [hr]; rfl⟩ rfl ⟨rfl, rfl⟩
 ·have h1 := of_decide_eq_false h1
  rw [hq] at h1
  have hr : spRoom σ k = σ.size - 18 - 4 * k := if_neg om
  have hk4 : 4 * k ≤ σ.size - 18 := by have : k ≤ (σ.size - 18) / 4 := by exact om
                                       omega
  cbv
  refine ⟨rf, ?_⟩
  cbv
  refine ⟨rf, ?_⟩
  cbv
  exact Cl.take 5 (.int .i64 fun _ => toI (spRoom σ k)) hb rfl rfl ⟨by rw [hr]; exact om⟩ rfl ⟨rfl, rfl⟩
def spShare (σ : Sp) (n : Nat) : Int × Sp := if spAsked σ n = true then ((cAdd σ.now n).1, { σ with now := (cAdd σ.now n).2 }) else (2, σ)
theorem space_Share (b db n : Nat) (σ : Sp) (q : SpQ) (hn : n < 4294967296) (h : SpOk σ) :
  FnSpec Tryz.prog 28 (spL b db σ q) [.bp 0 0, .int .u32 fun _ => toI n] (fun v hp => v = .int .i64 (fun _ => (spShare σ n).1) ∧ hp = spL b db (spShare σ n).2 q) := by
 refine spec_cl mixed F28 rfl rfl rfl (fun Γ hΓ hb => ?_)
 cbv
 refine callP_by hΓ (space_asked b db n σ q hn h) [0, 1, 2, 3, 4] (by simp) ⟨⟨_, rfl, .inl rfl⟩, ⟨_, rfl, .inl rfl⟩, ⟨_, rfl, .inl rfl⟩, ⟨_, rfl, .inl rfl⟩, ⟨_, rfl, .inl rfl⟩, trivial⟩ rfl ?_
 rintro x hp' ⟨rfl, rfl⟩
 refine ⟨rfl, ?_⟩
 cbv
 refine ⟨fun h1 => ?_, fun h1 => ?_⟩
 ·have h1 : spAsked σ n = false := by simpa using h1
  have hs : spShare σ n = (2, σ) := if_neg (by rw [h1]; simp)
  rw [hs]
  cbv
  exact Cl.same rfl ⟨rfl, rfl⟩
 ·have h1 : spAsked σ n = true := by simpa using h1
  have hs : spShare σ n = ((cAdd σ.now n).1, { σ with now := (cAdd σ.now n).2 }) := if_pos h1
  rw [hs]
  cbv
  refine callP_by hΓ (counts_Add q.nb σ.size σ.blocks σ.now n hn h.now) [3] (by simp) ⟨⟨_, rfl, .inl rfl⟩, trivial⟩ rfl ?_
  rintro x hp' ⟨rfl, rfl⟩
  refine ⟨rfl, ?_⟩
  cbv
  exact Cl.same rfl ⟨rfl, rfl⟩
theorem space_Count (b db n : Nat) (σ : Sp) (q : SpQ) (hn : n < 4294967296) (h : SpOk σ) :
  FnSpec Tryz.prog 20 (spL b db σ q) [.bp 0 0, .int .u32 fun _ => toI n] (fun v hp => v = .int .i64 (fun _ => toI (σ.now.getD n 0)) ∧ hp = spL b db σ q) := by
 refine spec_cl mixed F20 rfl rfl rfl (fun Γ hΓ hb => ?_)
 cbv
 refine callP_by hΓ (counts_Get q.nb σ.size σ.blocks σ.now n hn h.now) [3] (by simp) ⟨⟨_, rfl, .inl rfl⟩, trivial⟩ rfl ?_
 rintro x hp' ⟨rfl, rfl⟩
 refine ⟨rfl, ?_⟩
 cbv
 exact Cl.same rfl ⟨rfl, rfl⟩
theorem space_write (db size blocks n tag gen : Nat) (dur : List Bytes) (pend : List (Nat × Bytes)) (data : Bytes) (g : GeoOk size blocks) (hn : n < blocks) (hp : pend.length < 1000000000) (ht : tag < 256) (hg : gen < 18446744073709551616) (hd : data.length ≤ size - 16) :
  FnSpec Tryz.prog 56 [.res fun _ => DevR db size blocks dur pend] [.pt fun _ => ⟨db, 0, none⟩, .int .u32 fun _ => toI n, .agg [.int .u8 fun _ => toI tag, .int .u64 fun _ => toI gen, .str fun _ => data]]
   (fun v hp => v = .int .i64 (fun _ => 0) ∧ hp = [.res fun _ => DevR db size blocks dur (pend ++ [(n, frameB size tag gen data)])]) := by
 have g1 := g.h1
 have g2 := g.h2
 have g5 := g.h5
 have hfl := frameB_length size tag gen data hd (by omega)
 generalize hfb : frameB size tag gen data = fb at hfl
 have hfp := frame_Put size tag gen data ⟨g1, g2, g.h3, by omega, by omega⟩ ht hg hd
 rw [hfb] at hfp
 generalize hpe : pend ++ [(n, fb)] = pe
 have hdw := dev_Write db size blocks n dur pend fb hn g5 hfl hp
 rw [hpe] at hdw
 refine spec_cl mixed F56 rfl rfl rfl (fun Γ hΓ hb => ?_)
 have ew : wr .i64 (toI n) = toI n := wr_i64 om
 cbv
 intro b0
 cbv
 refine callP_by hΓ (dev_Geo db size blocks dur pend) [0] (by simp) ⟨⟨_, rfl, .inl rfl⟩, trivial⟩ rfl ?_
 rintro x hp' ⟨rfl, rfl⟩
 refine ⟨rfl, ?_⟩
 cbv
 refine ⟨rfl, ?_⟩
 cbv
 refine callP_by hΓ hfp [] (by simp) trivial rfl ?_
 rintro x hp' ⟨rfl, rfl⟩
 refine ⟨rfl, ?_⟩
 cbv
 refine .no (neF rfl) ?_
 cbv
 refine callP_eq (args' := [.pt fun _ => ⟨db, 0, none⟩, .int .i64 fun _ => toI n, .str fun _ => fb]) (hp' := [.res fun _ => DevR db size blocks dur pend, .gone (some ⟨b0, 0, none⟩) 1]) [.one 0, .one 1] 1 hb rfl rfl (nodup_of rfl) rfl rfl rfl ?_ ?_
 ·cbv
  exact rf
 refine callP_by hΓ hdw [0] (by simp) ⟨⟨_, rfl, .inl rfl⟩, trivial⟩ rfl ?_
 rintro x hp' ⟨rfl, rfl⟩
 refine ⟨rfl, ?_⟩
 cbv
 exact Cl.tk 1 hb rfl rfl rfl ⟨rfl, rfl⟩
end Go.Proofs.YtfoffehokhkohaaGreat
