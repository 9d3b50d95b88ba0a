/- Part 15 of what is proved in the last text (packed by a program of mine). -/
import Derived.Test.YtfoffehokhkohaaGreatK11
import Derived.Test.YtfoffehokhkohaaGreatK12
import Derived.Test.YtfoffehokhkohaaGreatK13
import Derived.Test.YtfoffehokhkohaaGreatK14
set_option linter.all false
set_option maxRecDepth 20000
namespace Go.Proofs.YtfoffehokhkohaaGreat
open Go
theorem delD (l z : List Nat) (i L : Nat) (hl : l.length = L) (hi : i < L) (hz : z.length = 1) : (overC (overC l i (l.drop (i + 1))) (L - 1) z).take (L - 1) = l.take i ++ l.drop (i + 1) := by
 have h1 : (l.take i).length = i := by rw [List.length_take]; omega
 have h2 : (l.drop (i + 1)).length = L - (i + 1) := by rw [List.length_drop, hl]
 have h3 : (overC l i (l.drop (i + 1))).take (L - 1) = l.take i ++ l.drop (i + 1) := by
  unfold overC
  rw [List.take_left' (by rw [List.length_append, h1, h2]; omega)]
 have h4 : (overC l i (l.drop (i + 1))).length = L := by rw [length_overC _ _ _ (by omega), hl]
 rw [← h3]
 generalize overC l i (l.drop (i + 1)) = x at h4
 unfold overC
 rw [List.append_assoc, List.take_append_of_le_length (by rw [List.length_take]; omega), List.take_take, Nat.min_self]
theorem delete_u64 (ad a : Option Addr) (L e i : Nat) (l : List Nat) (hl : l.length = L) (hL : L ≤ 1000000) (hi : i < L) :
  FnSpec Tryz.prog 101 [.arr ad (fun _ => L) (fun _ => e) [.nat .u64 fun _ => l] true] [.sl 0 (fun _ => a) (fun _ => 0) (fun _ => L) (fun _ => e), .int .i64 fun _ => toI i, .int .i64 fun _ => toI (i + 1)]
   (fun v hp => ∃ (a' ad' : Option Addr) (e' : Nat), v = .sl 1 (fun _ => a') (fun _ => 0) (fun _ => L - 1) (fun _ => e') ∧
    hp = [.gone ad 1, .arr ad' (fun _ => L - 1) (fun _ => e') [.nat .u64 fun _ => l.take i ++ l.drop (i + 1)] true]) := by
 obtain ⟨j, hj⟩ : ∃ j, j = i + 1 := ⟨_, rfl⟩
 obtain ⟨T, hT⟩ : ∃ T, T = L - 1 := ⟨_, rfl⟩
 rw [← hj, ← hT]
 refine spec_cl mixed F101 rfl rfl rfl (fun Γ hΓ hb => ?_)
 cbv
 repeat ((first | refine VC.mk rf ?_ | refine ADD.mk rf ?_ | intro _); cbv)
 refine .no (eqF om) ?_
 cbv
 repeat ((first | refine VC.mk rf ?_ | refine ADD.mk rf ?_ | intro _); cbv)
 refine .inn (VC.mk rf ?_)
 cbv
 repeat ((first | refine VC.mk rf ?_ | refine ADD.mk rf ?_ | intro _); cbv)
 refine Cl.carve 0 rfl rf rf fun a9 a10 => ?_
 cbv
 refine Cl.by (v' := .sl 1 (fun _ => a10) (fun _ => 0) (fun _ => T) (fun _ => L + e - T)) [.one 0, .one 1] 1 hb rfl rfl (nodup_of rfl)
  (hp' := [.gone ad 1, .arr a9 (fun _ => T) (fun _ => L + e - T) [.nat .u64 fun _ => l.take i ++ l.drop j] true]) rfl ?_ rfl ?_ ⟨a10, a9, L + e - T, rfl, rfl⟩
 ·cbv
  (repeat' first | with_reducible rfl | exact (show Ch.base _ = _ from rfl) | ((try simp only [toI, inI, List.length_nil] at *); omega) | exact trivial | refine ⟨?_, ?_⟩ | refine ⟨?_⟩ | intro _)
  simp only [toI_toNat, Nat.zero_add, Nat.sub_zero, List.drop_zero]
  rw [show i + (L - j) = L - 1 by omega, List.take_of_length_le (show (l.drop j).length ≤ L - j by rw [List.length_drop]; omega), hj]
  exact delD l _ i L hl hi (by rw [List.length_replicate]; omega)
 ·cbv
  exact rf
theorem replace0_u64 (ad ad2 a a2 : Option Addr) (L e i m s2 e2 : Nat) (l lv : List Nat) (hl : l.length = L) (hv : lv.length = m) (hL : L ≤ 1000000) (hm : m ≤ 1000000) (hm1 : 1 ≤ m) (hi : i = L ∨ i + m ≤ L) :
  FnSpec Tryz.prog 94 [.arr ad (fun _ => L) (fun _ => e) [.nat .u64 fun _ => l] true, .arr ad2 (fun _ => m) (fun _ => s2) [.nat .u64 fun _ => lv] false] [.sl 0 (fun _ => a) (fun _ => 0) (fun _ => L) (fun _ => e), .int .i64 fun _ => toI i, .int .i64 fun _ => toI i, .sl 1 (fun _ => a2) (fun _ => 0) (fun _ => m) (fun _ => e2)]
   (fun v hp => ∃ (a' ad' : Option Addr) (e' : Nat), v = .sl 2 (fun _ => a') (fun _ => 0) (fun _ => L + m) (fun _ => e') ∧
    hp = [.gone ad 1, .arr ad2 (fun _ => m) (fun _ => s2) [.nat .u64 fun _ => lv] false, .arr ad' (fun _ => L + m) (fun _ => e') [.nat .u64 fun _ => l.take i ++ lv ++ l.drop i] true]) := by
 have hs := insert_u64 ad ad2 a a2 L e i m s2 e2 l lv hl hv hL hm hm1 hi
 revert hs
 generalize l.take i ++ lv ++ l.drop i = r
 generalize hT : L + m = T
 intro hs
 refine spec_cl mixed F94 rfl rfl rfl (fun Γ hΓ hb => ?_)
 cbv
 repeat ((first | refine VC.mk rf ?_ | refine ADD.mk rf ?_ | intro _); cbv)
 refine .yes (eqT rfl) ?_
 cbv
 refine cP hΓ (hs) [0, 1] ?_
 rintro x hp' ⟨a', ad', e', rfl, rfl⟩
 refine ⟨rfl, ?_⟩
 cbv
 exact Cl.same rfl ⟨a', ad', e', rfl, rfl⟩
end Go.Proofs.YtfoffehokhkohaaGreat
set_option maxRecDepth 20000
namespace Go.Proofs.YtfoffehokhkohaaGreat
open Go
set_option maxHeartbeats 1000000 in
theorem insert_u32 (ad ad2 a a2 : Option Addr) (L e i m s2 e2 : Nat) (l lv : List Nat) (hl : l.length = L) (hv : lv.length = m) (hL : L ≤ 1000000) (hm : m ≤ 1000000) (hm1 : 1 ≤ m) (hi : i = L ∨ i + m ≤ L) :
  FnSpec Tryz.prog 144 [.arr ad (fun _ => L) (fun _ => e) [.nat .u32 fun _ => l] true, .arr ad2 (fun _ => m) (fun _ => s2) [.nat .u32 fun _ => lv] false] [.sl 0 (fun _ => a) (fun _ => 0) (fun _ => L) (fun _ => e), .int .i64 fun _ => toI i, .sl 1 (fun _ => a2) (fun _ => 0) (fun _ => m) (fun _ => e2)]
   (fun v hp => ∃ (a' ad' : Option Addr) (e' : Nat), v = .sl 2 (fun _ => a') (fun _ => 0) (fun _ => L + m) (fun _ => e') ∧
    hp = [.gone ad 1, .arr ad2 (fun _ => m) (fun _ => s2) [.nat .u32 fun _ => lv] false, .arr ad' (fun _ => L + m) (fun _ => e') [.nat .u32 fun _ => l.take i ++ lv ++ l.drop i] true]) := by
 refine spec_cl mixed F144 rfl rfl rfl (fun Γ hΓ hb => ?_)
 cbv
 refine ⟨rf, fun a3 => ?_⟩
 cbv
 refine .no (decide_eq_false om) ?_
 cbv
 refine ⟨fun hc => ?_, fun hc => ?_⟩
 ·replace hc : toI i = toI L := by simpa using hc
  have hc : i = L := by exact om
  subst hc
  have e0 : l.take i ++ lv ++ l.drop i = l ++ lv := by rw [← hl, List.take_length, List.drop_length, List.append_nil]
  rw [e0]
  cbv
  refine .any (VC.mk rf fun a4 a5 x4 hx4 => ?_)
  cbv
  refine Cl.by (v' := .sl 2 (fun _ => a5) (fun _ => 0) (fun _ => i + m) (fun _ => x4)) [.one 0, .one 1, .one 2] 2 hb rfl rfl (nodup_of rfl)
   (hp' := [.gone ad 1, .arr ad2 (fun _ => m) (fun _ => s2) [.nat .u32 fun _ => lv] false, .arr a4 (fun _ => i + m) (fun _ => x4) [.nat .u32 fun _ => l ++ lv] true]) rfl ?_ rfl ?_ ⟨a5, a4, x4, rfl, rfl⟩
  ·cbv
   (repeat' first | with_reducible rfl | exact (show Ch.base _ = _ from rfl) | ((try simp only [toI, inI, List.length_nil] at *); omega) | exact trivial | refine ⟨?_, ?_⟩ | refine ⟨?_⟩ | intro _)
   simp [List.take_of_length_le (Nat.le_of_eq hl), List.take_of_length_le (Nat.le_of_eq hv)]
  ·cbv
   exact rf
 ·replace hc : ¬ toI i = toI L := by simpa using hc
  have hi2 : i + m ≤ L := by rcases hi with h | h; exact absurd (by rw [h]) hc; exact h
  cbv
  refine .mk rf ?_
  cbv
  refine ⟨fun hg => ?_, fun hg => ?_⟩
  ·replace hg : toI (L + e) < toI L + toI m := of_decide_eq_true hg
   cbv
   refine VC.mk rf fun a4 => ?_
   cbv
   refine .mk rf ?_
   cbv
   refine VC.mk rf ?_
   cbv
   refine .new (VC.mk rf fun a5 x5 => ?_)
   cbv
   refine VC.mk rf fun a6 => ?_
   cbv
   refine .inn (VC.mk rf ?_)
   cbv
   refine .mk rf ?_
   cbv
   refine VC.mk rf fun a7 => ?_
   cbv
   refine VC.mk rf fun a8 => ?_
   cbv
   refine .inn (VC.mk rf ?_)
   cbv
   refine Cl.by (v' := .sl 2 (fun _ => a5) (fun _ => 0) (fun _ => L + m) (fun _ => x5)) [.one 0, .one 1, .one 2] 2 hb rfl rfl (nodup_of rfl)
    (hp' := [.gone ad 1, .arr ad2 (fun _ => m) (fun _ => s2) [.nat .u32 fun _ => lv] false, .arr a5 (fun _ => L + m) (fun _ => x5) [.nat .u32 fun _ => l.take i ++ lv ++ l.drop i] true]) rfl ?_ rfl ?_ ⟨a5, a5, x5, rfl, rfl⟩
   ·cbv
    (repeat' first | with_reducible rfl | exact (show Ch.base _ = _ from rfl) | ((try simp only [toI, inI, List.length_nil] at *); omega) | exact trivial | refine ⟨?_, ?_⟩ | refine ⟨?_⟩ | intro _)
    have n1 : (toI L + toI m - toI i).toNat = L + m - i := by exact om
    have n2 : (toI i + toI m).toNat = i + m := by exact om
    simp only [toI_toNat, n1, n2, Nat.zero_add, Nat.sub_zero, List.drop_zero]
    rw [show min m (i + (L + m - i) - i) = m by omega, show min (L - i) (i + (L + m - i) - (i + m)) = L - i by omega]
    exact ins1 l lv i m L hl hv hi2
   ·cbv
    exact rf
  ·replace hg : ¬ toI (L + e) < toI L + toI m := of_decide_eq_false hg
   cbv
   refine .mk rf ?_
   cbv
   refine VC.mk rf fun a4 => ?_
   cbv
   refine .mk rf ?_
   cbv
   refine VC.mk rf fun a5 => ?_
   cbv
   refine overlaps_call (fn := _) (tS := _) (tR := _) (e := _) (size := _) (by rw [hΓ]; rfl) rfl rfl rfl rfl (by rw [hΓ]; rfl) (by rw [hΓ]; intro w; rfl) rfl rfl rfl rfl rfl rfl rf (.inr ⟨rfl, rf⟩) ?_
   cbv
   refine .mk rf ?_
   cbv
   refine VC.mk rf fun a6 => ?_
   cbv
   refine VC.mk rf fun a7 => ?_
   cbv
   refine .ext (VC.mk rf ?_)
   cbv
   refine VC.mk rf fun a8 => ?_
   cbv
   refine .inn (VC.mk rf ?_)
   cbv
   refine Cl.carve 0 rfl rf rf fun a9 a10 => ?_
   cbv
   refine Cl.by (v' := .sl 2 (fun _ => a10) (fun _ => 0) (fun _ => L + m) (fun _ => e - m)) [.one 0, .one 1, .one 2] 2 hb rfl rfl (nodup_of rfl)
    (hp' := [.gone ad 1, .arr ad2 (fun _ => m) (fun _ => s2) [.nat .u32 fun _ => lv] false, .arr a9 (fun _ => L + m) (fun _ => e - m) [.nat .u32 fun _ => l.take i ++ lv ++ l.drop i] true]) rfl ?_ rfl ?_ ⟨a10, a9, e - m, rfl, rfl⟩
   ·cbv
    (repeat' first | with_reducible rfl | exact (show Ch.base _ = _ from rfl) | ((try simp only [toI, inI, List.length_nil] at *); omega) | exact trivial | refine ⟨?_, ?_⟩ | refine ⟨?_⟩ | intro _)
    have n1 : (toI L + toI m).toNat = L + m := by exact om
    have n2 : (toI i + toI m).toNat = i + m := by exact om
    simp only [toI_toNat, n1, n2, Nat.zero_add, Nat.sub_zero, List.drop_zero]
    rw [show min (L + m - i) (L + m - (i + m)) = L - i by omega, show min m (L + m - i) = m by omega]
    exact ins2 l lv i m L hl hv hi2
   ·cbv
    exact rf
set_option maxHeartbeats 1000000 in
theorem replace_u32 (ad ad2 a a2 : Option Addr) (L e i m s2 e2 : Nat) (l lv : List Nat) (hl : l.length = L) (hv : lv.length = m) (hL : L ≤ 1000000) (hm : m ≤ 1000000) (hi : i < L) (hi2 : i + 1 = L ∨ i + m ≤ L) :
  FnSpec Tryz.prog 95 [.arr ad (fun _ => L) (fun _ => e) [.nat .u32 fun _ => l] true, .arr ad2 (fun _ => m) (fun _ => s2) [.nat .u32 fun _ => lv] false] [.sl 0 (fun _ => a) (fun _ => 0) (fun _ => L) (fun _ => e), .int .i64 fun _ => toI i, .int .i64 fun _ => toI (i + 1), .sl 1 (fun _ => a2) (fun _ => 0) (fun _ => m) (fun _ => e2)]
   (fun v hp => ∃ (a' ad' : Option Addr) (e' : Nat), v = .sl 2 (fun _ => a') (fun _ => 0) (fun _ => L - 1 + m) (fun _ => e') ∧
    hp = [.gone ad 1, .arr ad2 (fun _ => m) (fun _ => s2) [.nat .u32 fun _ => lv] false, .arr ad' (fun _ => L - 1 + m) (fun _ => e') [.nat .u32 fun _ => l.take i ++ lv ++ l.drop (i + 1)] true]) := by
 obtain ⟨j, hj⟩ : ∃ j, j = i + 1 := ⟨_, rfl⟩
 obtain ⟨T, hT⟩ : ∃ T, T = L - 1 + m := ⟨_, rfl⟩
 rw [← hj, ← hT]
 refine spec_cl mixed F95 rfl rfl rfl (fun Γ hΓ hb => ?_)
 cbv
 refine VC.mk rf fun a3 => ?_
 cbv
 refine .no (eqF om) ?_
 cbv
 refine ⟨fun hc => ?_, fun hc => ?_⟩
 ·replace hc : toI j = toI L := by simpa using hc
  have hc : j = L := by exact om
  have e0 : l.drop j = [] := List.drop_of_length_le (by omega)
  rw [e0, List.append_nil]
  cbv
  refine VC.mk rf fun a4 => ?_
  cbv
  by_cases hm0 : m = 0
  ·have hlv : lv = [] := List.eq_nil_of_length_eq_zero (hv.trans hm0)
   refine .inn (VC.mk rf ?_)
   cbv
   refine .yes (decide_eq_true om) ?_
   cbv
   refine VC.mk rf fun a5 => ?_
   cbv
   refine VC.mk rf ?_
   cbv
   refine Cl.carve 0 rfl rf rf fun a9 a10 => ?_
   cbv
   refine Cl.by (v' := .sl 2 (fun _ => a10) (fun _ => 0) (fun _ => T) (fun _ => L + e - i)) [.one 0, .one 1, .one 2] 2 hb rfl rfl (nodup_of rfl)
    (hp' := [.gone ad 1, .arr ad2 (fun _ => m) (fun _ => s2) [.nat .u32 fun _ => lv] false, .arr a9 (fun _ => T) (fun _ => L + e - i) [.nat .u32 fun _ => l.take i ++ lv] true]) rfl ?_ rfl ?_ ⟨a10, a9, L + e - i, rfl, rfl⟩
   ·cbv
    (repeat' first | with_reducible rfl | exact (show Ch.base _ = _ from rfl) | ((try simp only [toI, inI, List.length_nil] at *); omega) | exact trivial | refine ⟨?_, ?_⟩ | refine ⟨?_⟩ | intro _)
    have n1 : ∀ x : List Nat, x.length = L → (overC x i []).take i = x.take i ∧ (overC x i []).length = L := fun x hx => by
     unfold overC; simp [hx]
    simp only [toI_toNat, Nat.zero_add, Nat.sub_zero, List.drop_zero, hm0, Nat.add_zero, hlv, List.append_nil, List.take_nil]
    have n2 : ∀ (x y : List Nat), x.length = L → (overC x i y).take i = x.take i := fun x y hx => by
     unfold overC
     rw [List.append_assoc, List.take_append_of_le_length (by rw [List.length_take]; omega), List.take_take, Nat.min_self]
    rw [n2 _ _ (n1 l hl).2, (n1 l hl).1]
   ·cbv
    exact rf
  ·refine .any (VC.mk rf fun a5 a6 x6 hx6 => ?_)
   cbv
   refine .no (decide_eq_false om) ?_
   cbv
   refine Cl.by (v' := .sl 2 (fun _ => a6) (fun _ => 0) (fun _ => T) (fun _ => x6)) [.one 0, .one 1, .one 2] 2 hb rfl rfl (nodup_of rfl)
    (hp' := [.gone ad 1, .arr ad2 (fun _ => m) (fun _ => s2) [.nat .u32 fun _ => lv] false, .arr a5 (fun _ => T) (fun _ => x6) [.nat .u32 fun _ => l.take i ++ lv] true]) rfl ?_ rfl ?_ ⟨a6, a5, x6, rfl, rfl⟩
   ·cbv
    (repeat' first | with_reducible rfl | exact (show Ch.base _ = _ from rfl) | ((try simp only [toI, inI, List.length_nil] at *); omega) | exact trivial | refine ⟨?_, ?_⟩ | refine ⟨?_⟩ | intro _)
    simp only [toI_toNat, Nat.zero_add, Nat.sub_zero, List.drop_zero]
    rw [List.take_of_length_le (Nat.le_of_eq hv)]
   ·cbv
    exact rf
 ·replace hc : ¬ toI j = toI L := by simpa using hc
  have hjL : j < L := by exact om
  have hi3 : i + m ≤ L := by omega
  cbv
  repeat ((first | refine VC.mk rf ?_ | refine ADD.mk rf ?_ | intro _); cbv)
  have hTe : toI ((toI i).toNat - (toI 0).toNat) + toI m + toI ((toI L).toNat - (toI j).toNat) = toI T := by exact om
  rw [hTe]
  refine ⟨fun hg => ?_, fun hg => ?_⟩
  ·replace hg : toI (L + e) < toI T := of_decide_eq_true hg
   cbv
   refine VC.mk rf fun a4 => ?_
   cbv
   refine VC.mk rf ?_
   cbv
   refine .new (VC.mk rf fun a5 x5 => ?_)
   cbv
   refine VC.mk rf fun a6 => ?_
   cbv
   refine .inn (VC.mk rf ?_)
   cbv
   refine .mk rf ?_
   cbv
   refine VC.mk rf fun a7 => ?_
   cbv
   refine VC.mk rf fun a8 => ?_
   cbv
   refine .inn (VC.mk rf ?_)
   cbv
   refine Cl.by (v' := .sl 2 (fun _ => a5) (fun _ => 0) (fun _ => T) (fun _ => x5)) [.one 0, .one 1, .one 2] 2 hb rfl rfl (nodup_of rfl)
    (hp' := [.gone ad 1, .arr ad2 (fun _ => m) (fun _ => s2) [.nat .u32 fun _ => lv] false, .arr a5 (fun _ => T) (fun _ => x5) [.nat .u32 fun _ => l.take i ++ lv ++ l.drop j] true]) rfl ?_ rfl ?_ ⟨a5, a5, x5, rfl, rfl⟩
   ·cbv
    (repeat' first | with_reducible rfl | exact (show Ch.base _ = _ from rfl) | ((try simp only [toI, inI, List.length_nil] at *); omega) | exact trivial | refine ⟨?_, ?_⟩ | refine ⟨?_⟩ | intro _)
    have n1 : (toI T - toI i).toNat = T - i := by exact om
    have n2 : (toI i + toI m).toNat = i + m := by exact om
    simp only [toI_toNat, n1, n2, Nat.zero_add, Nat.sub_zero, List.drop_zero]
    rw [show min m (i + (T - i) - i) = m by omega, show min (L - j) (i + (T - i) - (i + m)) = L - j by omega, List.take_of_length_le (Nat.le_of_eq hv), List.take_of_length_le (show (l.drop j).length ≤ L - j by rw [List.length_drop]; omega)]
    have h1 : (l.take i).length = i := by rw [List.length_take]; omega
    have := ins0 (l.take i) lv (l.drop j) (T - i) (by rw [List.length_drop]; omega)
    rw [h1, hv] at this
    exact this
   ·cbv
    exact rf
  ·replace hg : ¬ toI (L + e) < toI T := of_decide_eq_false hg
   cbv
   refine VC.mk rf fun a4 => ?_
   cbv
   refine .mk rf ?_
   cbv
   refine ⟨fun hm2 => ?_, fun hm2 => ?_⟩
   ·replace hm2 := of_decide_eq_true hm2
    cbv
    have hm2 : m ≤ 1 := by exact om
    refine VC.mk rf fun a5 => ?_
    cbv
    refine .inn (VC.mk rf ?_)
    cbv
    repeat ((first | refine VC.mk rf ?_ | refine ADD.mk rf ?_ | intro _); cbv)
    refine .inn (VC.mk rf ?_)
    cbv
    repeat ((first | refine VC.mk rf ?_ | refine ADD.mk rf ?_ | intro _); cbv)
    refine Cl.carve 0 rfl rf rf fun a9 a10 => ?_
    cbv
    refine Cl.by (v' := .sl 2 (fun _ => a10) (fun _ => 0) (fun _ => T) (fun _ => L + e - T)) [.one 0, .one 1, .one 2] 2 hb rfl rfl (nodup_of rfl)
     (hp' := [.gone ad 1, .arr ad2 (fun _ => m) (fun _ => s2) [.nat .u32 fun _ => lv] false, .arr a9 (fun _ => T) (fun _ => L + e - T) [.nat .u32 fun _ => l.take i ++ lv ++ l.drop j] true]) rfl ?_ rfl ?_ ⟨a10, a9, L + e - T, rfl, rfl⟩
    ·cbv
     (repeat' first | with_reducible rfl | exact (show Ch.base _ = _ from rfl) | ((try simp only [toI, inI, List.length_nil] at *); omega) | exact trivial | refine ⟨?_, ?_⟩ | refine ⟨?_⟩ | intro _)
     have n2 : (toI i + toI m).toNat = i + m := by exact om
     have hA : (overC l i lv).length = L := by rw [length_overC _ _ _ (by omega), hl]
     simp only [toI_toNat, n2, Nat.zero_add, Nat.sub_zero, List.drop_zero]
     rw [show min m (T - i) = m by omega, show min (L - j) (T - (i + m)) = L - j by omega, List.take_of_length_le (Nat.le_of_eq hv), List.take_of_length_le (show ((overC l i lv).drop j).length ≤ L - j by rw [List.length_drop]; omega), hj]
     exact repD l lv _ i m L T hl hv hm2 (by omega) hT (by rw [List.length_replicate])
    ·cbv
     exact rf
   ·replace hm2 := of_decide_eq_false hm2
    cbv
    have hm2 : 2 ≤ m := by exact om
    repeat ((first | refine VC.mk rf ?_ | refine ADD.mk rf ?_ | intro _); cbv)
    refine overlaps_call (fn := _) (tS := _) (tR := _) (e := _) (size := _) (by rw [hΓ]; rfl) rfl rfl rfl rfl (by rw [hΓ]; rfl) (by rw [hΓ]; intro w; rfl) rfl rfl rfl rfl rfl rfl (.inr ⟨rfl, rf⟩) rf ?_
    cbv
    repeat ((first | refine VC.mk rf ?_ | refine ADD.mk rf ?_ | intro _); cbv)
    refine .ext (VC.mk rf ?_)
    cbv
    repeat ((first | refine VC.mk rf ?_ | refine ADD.mk rf ?_ | intro _); cbv)
    refine .inn (VC.mk rf ?_)
    cbv
    refine Cl.carve 0 rfl rf rf fun a9 a10 => ?_
    cbv
    refine Cl.by (v' := .sl 2 (fun _ => a10) (fun _ => 0) (fun _ => T) (fun _ => L + e - T)) [.one 0, .one 1, .one 2] 2 hb rfl rfl (nodup_of rfl)
     (hp' := [.gone ad 1, .arr ad2 (fun _ => m) (fun _ => s2) [.nat .u32 fun _ => lv] false, .arr a9 (fun _ => T) (fun _ => L + e - T) [.nat .u32 fun _ => l.take i ++ lv ++ l.drop j] true]) rfl ?_ rfl ?_ ⟨a10, a9, L + e - T, rfl, rfl⟩
    ·cbv
     (repeat' first | with_reducible rfl | exact (show Ch.base _ = _ from rfl) | ((try simp only [toI, inI, List.length_nil] at *); omega) | exact trivial | refine ⟨?_, ?_⟩ | refine ⟨?_⟩ | intro _)
     have n2 : (toI i + toI m).toNat = i + m := by exact om
     simp only [toI_toNat, n2, Nat.zero_add, Nat.sub_zero, List.drop_zero]
     rw [show min m (T - i) = m by omega, show min (L - j) (T - (i + m)) = L - j by omega, List.take_of_length_le (Nat.le_of_eq hv), List.take_of_length_le (show (l.drop j).length ≤ L - j by rw [List.length_drop]; omega)]
     exact repE l lv i j m L T hl hv hi3 hi hj hT
    ·cbv
     exact rf
theorem delete_u32 (ad a : Option Addr) (L e i : Nat) (l : List Nat) (hl : l.length = L) (hL : L ≤ 1000000) (hi : i < L) :
  FnSpec Tryz.prog 102 [.arr ad (fun _ => L) (fun _ => e) [.nat .u32 fun _ => l] true] [.sl 0 (fun _ => a) (fun _ => 0) (fun _ => L) (fun _ => e), .int .i64 fun _ => toI i, .int .i64 fun _ => toI (i + 1)]
   (fun v hp => ∃ (a' ad' : Option Addr) (e' : Nat), v = .sl 1 (fun _ => a') (fun _ => 0) (fun _ => L - 1) (fun _ => e') ∧
    hp = [.gone ad 1, .arr ad' (fun _ => L - 1) (fun _ => e') [.nat .u32 fun _ => l.take i ++ l.drop (i + 1)] true]) := by
 obtain ⟨j, hj⟩ : ∃ j, j = i + 1 := ⟨_, rfl⟩
 obtain ⟨T, hT⟩ : ∃ T, T = L - 1 := ⟨_, rfl⟩
 rw [← hj, ← hT]
 refine spec_cl mixed F102 rfl rfl rfl (fun Γ hΓ hb => ?_)
 cbv
 repeat ((first | refine VC.mk rf ?_ | refine ADD.mk rf ?_ | intro _); cbv)
 refine .no (eqF om) ?_
 cbv
 repeat ((first | refine VC.mk rf ?_ | refine ADD.mk rf ?_ | intro _); cbv)
 refine .inn (VC.mk rf ?_)
 cbv
 repeat ((first | refine VC.mk rf ?_ | refine ADD.mk rf ?_ | intro _); cbv)
 refine Cl.carve 0 rfl rf rf fun a9 a10 => ?_
 cbv
 refine Cl.by (v' := .sl 1 (fun _ => a10) (fun _ => 0) (fun _ => T) (fun _ => L + e - T)) [.one 0, .one 1] 1 hb rfl rfl (nodup_of rfl)
  (hp' := [.gone ad 1, .arr a9 (fun _ => T) (fun _ => L + e - T) [.nat .u32 fun _ => l.take i ++ l.drop j] true]) rfl ?_ rfl ?_ ⟨a10, a9, L + e - T, rfl, rfl⟩
 ·cbv
  (repeat' first | with_reducible rfl | exact (show Ch.base _ = _ from rfl) | ((try simp only [toI, inI, List.length_nil] at *); omega) | exact trivial | refine ⟨?_, ?_⟩ | refine ⟨?_⟩ | intro _)
  simp only [toI_toNat, Nat.zero_add, Nat.sub_zero, List.drop_zero]
  rw [show i + (L - j) = L - 1 by omega, List.take_of_length_le (show (l.drop j).length ≤ L - j by rw [List.length_drop]; omega), hj]
  exact delD l _ i L hl hi (by rw [List.length_replicate]; omega)
 ·cbv
  exact rf
theorem replace0_u32 (ad ad2 a a2 : Option Addr) (L e i m s2 e2 : Nat) (l lv : List Nat) (hl : l.length = L) (hv : lv.length = m) (hL : L ≤ 1000000) (hm : m ≤ 1000000) (hm1 : 1 ≤ m) (hi : i = L ∨ i + m ≤ L) :
  FnSpec Tryz.prog 95 [.arr ad (fun _ => L) (fun _ => e) [.nat .u32 fun _ => l] true, .arr ad2 (fun _ => m) (fun _ => s2) [.nat .u32 fun _ => lv] false] [.sl 0 (fun _ => a) (fun _ => 0) (fun _ => L) (fun _ => e), .int .i64 fun _ => toI i, .int .i64 fun _ => toI i, .sl 1 (fun _ => a2) (fun _ => 0) (fun _ => m) (fun _ => e2)]
   (fun v hp => ∃ (a' ad' : Option Addr) (e' : Nat), v = .sl 2 (fun _ => a') (fun _ => 0) (fun _ => L + m) (fun _ => e') ∧
    hp = [.gone ad 1, .arr ad2 (fun _ => m) (fun _ => s2) [.nat .u32 fun _ => lv] false, .arr ad' (fun _ => L + m) (fun _ => e') [.nat .u32 fun _ => l.take i ++ lv ++ l.drop i] true]) := by
 have hs := insert_u32 ad ad2 a a2 L e i m s2 e2 l lv hl hv hL hm hm1 hi
 revert hs
 generalize l.take i ++ lv ++ l.drop i = r
 generalize hT : L + m = T
 intro hs
 refine spec_cl mixed F95 rfl rfl rfl (fun Γ hΓ hb => ?_)
 cbv
 repeat ((first | refine VC.mk rf ?_ | refine ADD.mk rf ?_ | intro _); cbv)
 refine .yes (eqT rfl) ?_
 cbv
 refine cP hΓ (hs) [0, 1] ?_
 rintro x hp' ⟨a', ad', e', rfl, rfl⟩
 refine ⟨rfl, ?_⟩
 cbv
 exact Cl.same rfl ⟨a', ad', e', rfl, rfl⟩
end Go.Proofs.YtfoffehokhkohaaGreat
set_option maxRecDepth 20000
namespace Go.Proofs.YtfoffehokhkohaaGreat
open Go
structure GeoOk (size blocks : Nat) : Prop where
 h1 : 128 ≤ size
 h2 : size ≤ 4096
 h3 : size % 64 = 0
 h4 : 8 ≤ blocks
 h5 : blocks ≤ 4096
theorem GeoOk.tmod {size blocks : Nat} (h : GeoOk size blocks) : (toI size).tmod 64 = 0 := by
 have := h.h3
 simp only [toI]
 rw [Int.tmod_eq_emod_of_nonneg (by omega)]
 omega
theorem device_Check (size blocks : Nat) (g : GeoOk size blocks) : FnSpec Tryz.prog 81 [] [.agg [.int .i64 fun _ => toI size, .int .i64 fun _ => toI blocks]] (fun v hp => v = .int .i64 (fun _ => 0) ∧ hp = []) := by
 obtain ⟨g1, g2, g3, g4, g5⟩ := g
 refine spec_cl mixed F81 rfl rfl rfl (fun Γ hΓ hb => ?_)
 cbv
 intro b
 cbv
 refine .no (decide_eq_false om) ?_
 cbv
 refine .no (decide_eq_false om) ?_
 cbv
 refine ⟨by omega, ?_⟩
 cbv
 refine .no (neF (GeoOk.tmod ⟨g1, g2, g3, g4, g5⟩)) ?_
 cbv
 refine .no (decide_eq_false om) ?_
 cbv
 refine .no (decide_eq_false om) ?_
 cbv
 exact Cl.tk 0 hb rfl rfl rfl ⟨rfl, rfl⟩
theorem frame_Room (size : Nat) (g : GeoOk size 8) : FnSpec Tryz.prog 106 [] [.int .i64 fun _ => toI size] (fun v hp => v = .int .i64 (fun _ => toI (size - 16)) ∧ hp = []) := by
 have g1 := g.h1
 have g2 := g.h2
 refine spec_cl mixed F106 rfl rfl rfl (fun Γ hΓ hb => ?_)
 cbv
 refine callP_by hΓ (device_Check size 8 g) [] (by simp) trivial rfl ?_
 rintro x hp' ⟨rfl, rfl⟩
 refine ⟨rfl, ?_⟩
 cbv
 refine .no (neF rfl) ?_
 cbv
 refine ⟨rf, ?_⟩
 cbv
 refine ⟨rf, ?_⟩
 cbv
 exact Cl.take 0 (.int .i64 fun _ => toI (size - 16)) hb rfl rfl ⟨by exact om⟩ rfl ⟨rfl, rfl⟩
def frameH (tag gen : Nat) (data : List UInt8) : List UInt8 := [UInt8.ofNat tag, 0] ++ leB data.length 2 ++ leB gen 8 ++ data
def frameP (size tag gen : Nat) (data : List UInt8) : List UInt8 := frameH tag gen data ++ List.replicate (size - 16 - data.length) 0
def frameB (size tag gen : Nat) (data : List UInt8) : List UInt8 := frameP size tag gen data ++ leB (crcOf (frameP size tag gen data)).toNat 4
theorem frameH_length (tag gen : Nat) (data : List UInt8) : (frameH tag gen data).length = 12 + data.length := by simp [frameH]; omega
theorem frameP_length (size tag gen : Nat) (data : List UInt8) (h : data.length ≤ size - 16) (hs : 16 ≤ size) : (frameP size tag gen data).length = size - 4 := by
 simp [frameP, frameH_length]; omega
theorem frameB_length (size tag gen : Nat) (data : List UInt8) (h : data.length ≤ size - 16) (hs : 16 ≤ size) : (frameB size tag gen data).length = size := by
 simp [frameB, frameP_length size tag gen data h hs]; omega
theorem overC_z (p s : List UInt8) (n : Nat) : overC (p ++ List.replicate n 0) p.length s = p ++ s ++ List.replicate (n - s.length) 0 := by
 unfold overC
 rw [List.take_left, List.drop_append]
 have e : List.drop (p.length + s.length) p = [] := List.drop_eq_nil_iff.2 (by omega)
 rw [e, List.nil_append, List.drop_replicate]
 congr 2
 omega
theorem frame_Put (size tag gen : Nat) (data : List UInt8) (g : GeoOk size 8) (ht : tag < 256) (hg : gen < 18446744073709551616) (hd : data.length ≤ size - 16) :
  FnSpec Tryz.prog 108 [] [.int .i64 fun _ => toI size, .agg [.int .u8 fun _ => toI tag, .int .u64 fun _ => toI gen, .str fun _ => data]]
   (fun v hp => v = .tup [.str fun _ => frameB size tag gen data, .int .i64 fun _ => 0] ∧ hp = []) := by
 have g1 := g.h1
 have g2 := g.h2
 refine spec_cl mixed F108 rfl rfl rfl (fun Γ hΓ hb => ?_)
 cbv
 intro b0
 cbv
 refine callP_by hΓ (frame_Room size g) [] (by simp) trivial rfl ?_
 rintro x hp' ⟨rfl, rfl⟩
 refine ⟨rfl, ?_⟩
 cbv
 refine .no (eqF om) ?_
 cbv
 refine .no (decide_eq_false om) ?_
 cbv
 refine ⟨rf, fun b1 => ?_⟩
 cbv
 refine ⟨rf, fun a1 => ?_⟩
 cbv
 refine ⟨rf, fun b2 => ?_⟩
 cbv
 refine .inn ⟨rf, ?_⟩
 cbv
 have ez := fun (p s : List UInt8) (m : Nat) => overC_z p s m
 refine callP_eq (args' := [.sl 1 (fun _ => a1) (fun _ => 0) (fun _ => 2) (fun _ => 10), .int .u64 fun _ => toI data.length, .int .i64 fun _ => toI 2])
  (hp' := [.box b0 113 [.int .u8 fun _ => toI tag, .int .u64 fun _ => toI gen, .str fun _ => data] true, .arr (some ⟨b1, 0, none⟩) (fun _ => size) (fun _ => 0) [.b8 fun _ => [UInt8.ofNat tag, 0] ++ List.replicate (size - 2) 0] true, .gone (some ⟨b2, 0, none⟩) 1]) [.one 0, .one 1, .one 2] 0 hb rfl rfl (nodup_of rfl) rfl rfl rfl ?_ ?_
 ·cbv
  (repeat' first | with_reducible rfl | exact (show Ch.base _ = _ from rfl) | ((try simp only [toI, inI, List.length_nil] at *); omega) | exact trivial | refine ⟨?_, ?_⟩ | refine ⟨?_⟩ | intro _)
  ·simp only [toI_toNat]
   exact ez [] [UInt8.ofNat tag, 0] size
  ·exact wr_u64 om om
 refine callP_by hΓ (octet_PutIn data.length 2 _ a1 (some ⟨b1, 0, none⟩) size 0 2 10 0 (by omega) (by omega) (by simp; omega) (by omega) (by omega) (by omega)) [1] (by simp) ⟨⟨_, rfl, .inl rfl⟩, trivial⟩ rfl ?_
 rintro x hp' ⟨rfl, rfl⟩
 refine ⟨rfl, ?_⟩
 cbv
 refine callP_eq (args' := [.sl 1 (fun _ => a1) (fun _ => 0) (fun _ => 4) (fun _ => 8), .int .u64 fun _ => toI gen, .int .i64 fun _ => toI 8])
  (hp' := [.box b0 113 [.int .u8 fun _ => toI tag, .int .u64 fun _ => toI gen, .str fun _ => data] true, .arr (some ⟨b1, 0, none⟩) (fun _ => size) (fun _ => 0) [.b8 fun _ => [UInt8.ofNat tag, 0] ++ leB data.length 2 ++ List.replicate (size - 4) 0] true, .gone (some ⟨b2, 0, none⟩) 1]) [.one 0, .one 1, .one 2] 0 hb rfl rfl (nodup_of rfl) rfl rfl rfl ?_ ?_
 ·cbv
  (repeat' first | with_reducible rfl | exact (show Ch.base _ = _ from rfl) | ((try simp only [toI, inI, List.length_nil] at *); omega) | exact trivial | refine ⟨?_, ?_⟩ | refine ⟨?_⟩ | intro _)
  have e := ez [UInt8.ofNat tag, 0] (leB data.length 2) (size - 2)
  simp only [leB_length, List.length_cons, List.length_nil, Nat.sub_sub] at e
  exact e
 refine callP_by hΓ (octet_PutIn gen 8 _ a1 (some ⟨b1, 0, none⟩) size 0 4 8 0 (by omega) (by omega) (by simp; omega) (by omega) (by omega) (by omega)) [1] (by simp) ⟨⟨_, rfl, .inl rfl⟩, trivial⟩ rfl ?_
 rintro x hp' ⟨rfl, rfl⟩
 refine ⟨rfl, ?_⟩
 cbv
 refine ⟨rf, fun a3 => ?_⟩
 cbv
 refine ⟨by have : Nat.min data.length (toI ((toI size).toNat + ((toI size).toNat - (toI size).toNat))).toNat ≤ data.length := Nat.min_le_left _ _
            exact om, ?_⟩
 cbv
 refine ⟨rf, ?_⟩
 cbv
 refine ⟨rf, fun a4 => ?_⟩
 cbv
 refine ⟨rf, fun a5 => ?_⟩
 cbv
 refine callP_eq (args' := [.sl 1 (fun _ => a5) (fun _ => 0) (fun _ => size - 4) (fun _ => 4)])
  (hp' := [.box b0 113 [.int .u8 fun _ => toI tag, .int .u64 fun _ => toI gen, .str fun _ => data] true, .arr (some ⟨b1, 0, none⟩) (fun _ => size) (fun _ => 0) [.b8 fun _ => frameP size tag gen data ++ List.replicate 4 0] true, .gone (some ⟨b2, 0, none⟩) 1]) [.one 0, .one 1, .one 2] 0 hb rfl rfl (nodup_of rfl) rfl rfl rfl ?_ ?_
 ·cbv
  (repeat' first | with_reducible rfl | exact (show Ch.base _ = _ from rfl) | ((try simp only [toI, inI, List.length_nil] at *); omega) | exact trivial | refine ⟨?_, ?_⟩ | refine ⟨?_⟩ | intro _)
  have e1 := ez ([UInt8.ofNat tag, 0] ++ leB data.length 2) (leB gen 8) (size - 4)
  have e2 := ez ([UInt8.ofNat tag, 0] ++ leB data.length 2 ++ leB gen 8) data (size - 4 - 8)
  simp only [leB_length, List.length_append, List.length_cons, List.length_nil, Nat.zero_add, Nat.reduceAdd] at e1 e2
  have e3 : (toI (toI size).toNat).toNat - (12 : Int).toNat = size - 12 := by exact om
  have e4 : List.take (min data.length ((toI (toI size).toNat).toNat - (12 : Int).toNat)) data = data := by
   rw [e3]; exact List.take_of_length_le (by omega)
  show overC (overC _ 4 _) 12 (List.take (min data.length ((toI (toI size).toNat).toNat - (12 : Int).toNat)) data) = _
  rw [e1, e4, e2]
  unfold frameP frameH
  rw [List.append_assoc _ (List.replicate _ _) (List.replicate _ _), List.replicate_append_replicate]
  congr 2
  omega
 refine callP_by hΓ (crc_Of (some ⟨b1, 0, none⟩) a5 size 0 0 (size - 4) 4 _ (by simp [frameP_length size tag gen data hd (by omega)]; omega) (by omega) (by omega)) [1] (by simp) ⟨⟨_, rfl, .inr ⟨rfl, rfl⟩⟩, trivial⟩ rfl ?_
 rintro x hp' ⟨rfl, rfl⟩
 refine ⟨rfl, ?_⟩
 cbv
 have hcr := crcOf_range (frameP size tag gen data)
 have hsub : subl (frameP size tag gen data ++ List.replicate 4 0) 0 (size - 4) = frameP size tag gen data := by
  unfold subl
  rw [List.drop_zero, ← frameP_length size tag gen data hd (by omega), List.take_left]
 refine callP_eq (args' := [.sl 1 (fun _ => a4) (fun _ => size - 4) (fun _ => 0) (fun _ => 4), .int .u64 fun _ => toI (crcOf (frameP size tag gen data)).toNat, .int .i64 fun _ => toI 4])
  (hp' := [.box b0 113 [.int .u8 fun _ => toI tag, .int .u64 fun _ => toI gen, .str fun _ => data] true, .arr (some ⟨b1, 0, none⟩) (fun _ => size) (fun _ => 0) [.b8 fun _ => frameP size tag gen data ++ List.replicate 4 0] true, .gone (some ⟨b2, 0, none⟩) 1]) [.one 0, .one 1, .one 2] 0 hb rfl rfl (nodup_of rfl) rfl rfl rfl ?_ ?_
 ·cbv
  (repeat' first | with_reducible rfl | exact (show Ch.base _ = _ from rfl) | ((try simp only [toI, inI, List.length_nil] at *); omega) | exact trivial | refine ⟨?_, ?_⟩ | refine ⟨?_⟩ | intro _)
  rw [hsub, wr_u64 (by omega) (by omega)]
  simp only [toI]; omega
 refine callP_by hΓ (octet_PutIn (crcOf (frameP size tag gen data)).toNat 4 _ a4 (some ⟨b1, 0, none⟩) size (size - 4) 0 4 0 (by omega) (by omega) (by simp [frameP_length size tag gen data hd (by omega)]; omega) (by omega) (by omega) (by omega)) [1] (by simp) ⟨⟨_, rfl, .inl rfl⟩, trivial⟩ rfl ?_
 rintro x hp' ⟨rfl, rfl⟩
 refine ⟨rfl, ?_⟩
 cbv
 refine ⟨rf, ?_⟩
 cbv
 refine Cl.take 0 (.tup [.str fun _ => frameB size tag gen data, .int .i64 fun _ => 0]) hb rfl rfl ?_ rfl ⟨rfl, rfl⟩
 cbv
 (repeat' first | with_reducible rfl | exact (show Ch.base _ = _ from rfl) | ((try simp only [toI, inI, List.length_nil] at *); omega) | exact trivial | refine ⟨?_, ?_⟩ | refine ⟨?_⟩ | intro _)
 have e1 := ez (frameP size tag gen data) (leB (crcOf (frameP size tag gen data)).toNat 4) 4
 rw [frameP_length size tag gen data hd (by omega)] at e1
 show List.take (toI size).toNat (overC _ (size - 4) _) = _
 rw [e1, List.take_of_length_le]
 ·simp [frameB]
 ·simp [frameP_length size tag gen data hd (by omega), toI]; omega
theorem subl_app {α : Type} (p q r : List α) (off len : Nat) (h1 : p.length = off) (h2 : q.length = len) : subl (p ++ (q ++ r)) off len = q := by
 subst h1; subst h2
 simp [subl]
theorem frameB_crc (size tag gen : Nat) (data : List UInt8) (h : data.length ≤ size - 16) (hs : 16 ≤ size) : subl (frameB size tag gen data) 0 (size - 4) = frameP size tag gen data ∧ ofLE (subl (frameB size tag gen data) (size - 4) 4) = (crcOf (frameP size tag gen data)).toNat := by
 have hl := frameP_length size tag gen data h hs
 constructor
 ·exact subl_app [] (frameP size tag gen data) _ 0 (size - 4) rfl hl
 ·have := subl_app (frameP size tag gen data) (leB (crcOf (frameP size tag gen data)).toNat 4) [] (size - 4) 4 hl (by simp)
  rw [List.append_nil] at this
  rw [frameB, this, ofLE_leB]
  have := crcOf_range (frameP size tag gen data)
  exact Nat.mod_eq_of_lt (by omega)
theorem frameB_len (size tag gen : Nat) (data : List UInt8) (h : data.length < 65536) : ofLE (subl (frameB size tag gen data) 2 2) = data.length := by
 have : frameB size tag gen data = [UInt8.ofNat tag, 0] ++ (leB data.length 2 ++ (leB gen 8 ++ (data ++ (List.replicate (size - 16 - data.length) 0 ++ leB (crcOf (frameP size tag gen data)).toNat 4)))) := by simp [frameB, frameP, frameH]
 rw [this, subl_app [UInt8.ofNat tag, 0] (leB data.length 2) _ 2 2 rfl (by simp), ofLE_leB]
 exact Nat.mod_eq_of_lt h
theorem frameB_gen (size tag gen : Nat) (data : List UInt8) (h : gen < 18446744073709551616) : ofLE (subl (frameB size tag gen data) 4 8) = gen := by
 have : frameB size tag gen data = ([UInt8.ofNat tag, 0] ++ leB data.length 2) ++ (leB gen 8 ++ (data ++ (List.replicate (size - 16 - data.length) 0 ++ leB (crcOf (frameP size tag gen data)).toNat 4))) := by simp [frameB, frameP, frameH]
 rw [this, subl_app _ (leB gen 8) _ 4 8 (by simp) (by simp), ofLE_leB]
 exact Nat.mod_eq_of_lt h
theorem frameB_data (size tag gen : Nat) (data : List UInt8) : subl (frameB size tag gen data) 12 data.length = data := by
 have : frameB size tag gen data = ([UInt8.ofNat tag, 0] ++ leB data.length 2 ++ leB gen 8) ++ (data ++ (List.replicate (size - 16 - data.length) 0 ++ leB (crcOf (frameP size tag gen data)).toNat 4)) := by simp [frameB, frameP, frameH]
 rw [this, subl_app _ data _ 12 data.length (by simp) rfl]
theorem frameB_tag (size tag gen : Nat) (data : List UInt8) (h : tag < 256) : ((frameB size tag gen data).getD 0 0).toNat = tag := by
 have : frameB size tag gen data = UInt8.ofNat tag :: ([0] ++ leB data.length 2 ++ leB gen 8 ++ data ++ List.replicate (size - 16 - data.length) 0 ++ leB (crcOf (frameP size tag gen data)).toNat 4) := by simp [frameB, frameP, frameH]
 rw [this]
 simp [UInt8.toNat_ofNat']
 omega
theorem frame_Get (size tag gen : Nat) (data : List UInt8) (g : GeoOk size 8) (ht : tag < 256) (hg : gen < 18446744073709551616) (hd : data.length ≤ size - 16) :
  FnSpec Tryz.prog 157 [] [.str fun _ => frameB size tag gen data]
   (fun v hp => v = .tup [.agg [.int .u8 fun _ => toI tag, .int .u64 fun _ => toI gen, .str fun _ => data], .int .i64 fun _ => 0] ∧ hp = []) := by
 have g1 := g.h1
 have g2 := g.h2
 have hlen := frameB_length size tag gen data hd (by omega)
 obtain ⟨hc1, hc2⟩ := frameB_crc size tag gen data hd (by omega)
 have hln := frameB_len size tag gen data (by omega)
 have hgn := frameB_gen size tag gen data hg
 have hdt := frameB_data size tag gen data
 have htg := frameB_tag size tag gen data ht
 have hcr := crcOf_range (frameP size tag gen data)
 revert hlen hc1 hc2 hln hgn hdt htg
 generalize hB : frameB size tag gen data = B
 intro hlen hc1 hc2 hln hgn hdt htg
 subst hlen
 refine spec_cl mixed F157 rfl rfl rfl (fun Γ hΓ hb => ?_)
 cbv
 intro b0
 cbv
 refine callP_by hΓ (frame_Room B.length g) [] (by simp) trivial rfl ?_
 rintro x hp' ⟨rfl, rfl⟩
 refine ⟨rfl, ?_⟩
 cbv
 refine .no (eqF om) ?_
 cbv
 intro b1 e1
 cbv
 refine ⟨rf, ?_⟩
 cbv
 refine ⟨rf, fun a1 => ?_⟩
 cbv
 refine ⟨rf, fun a2 => ?_⟩
 cbv
 refine callP_eq (args' := [.sl 1 (fun _ => a1) (fun _ => 0) (fun _ => B.length - 4) (fun _ => 4 + e1)]) (hp' := [.box b0 113 [.int .u8 fun _ => 0, .int .u64 fun _ => 0, .str fun _ => []] true, .arr (some ⟨b1, 0, none⟩) (fun _ => B.length) (fun _ => e1) [.b8 fun _ => B] true]) [.one 0, .one 1] 0 hb rfl rfl (nodup_of rfl) rfl rfl rfl ?_ ?_
 ·cbv
  exact rf
 refine callP_by hΓ (crc_Of (some ⟨b1, 0, none⟩) a1 B.length e1 0 (B.length - 4) (4 + e1) B rfl (by omega) (by omega)) [1] (by simp) ⟨⟨_, rfl, .inr ⟨rfl, rfl⟩⟩, trivial⟩ rfl ?_
 rintro x hp' ⟨rfl, rfl⟩
 refine ⟨rfl, ?_⟩
 cbv
 refine callP_eq (args' := [.sl 1 (fun _ => a2) (fun _ => B.length - 4) (fun _ => 4) (fun _ => e1)]) (hp' := [.box b0 113 [.int .u8 fun _ => 0, .int .u64 fun _ => 0, .str fun _ => []] true, .arr (some ⟨b1, 0, none⟩) (fun _ => B.length) (fun _ => e1) [.b8 fun _ => B] true]) [.one 0, .one 1] 0 hb rfl rfl (nodup_of rfl) rfl rfl rfl ?_ ?_
 ·cbv
  exact rf
 refine callP_by hΓ (octet_Of (some ⟨b1, 0, none⟩) a2 B.length e1 (B.length - 4) 4 e1 B rfl (by omega) (by omega)) [1] (by simp) ⟨⟨_, rfl, .inr ⟨rfl, rfl⟩⟩, trivial⟩ rfl ?_
 rintro x hp' ⟨rfl, rfl⟩
 refine ⟨rfl, ?_⟩
 cbv
 refine .no (neF ?_) ?_
 ·rw [hc1, hc2, wr_u64 (by omega) (by omega)]
  simp only [toI]; omega
 cbv
 refine ⟨rf, fun a3 => ?_⟩
 cbv
 refine callP_eq (args' := [.sl 1 (fun _ => a3) (fun _ => 2) (fun _ => 2) (fun _ => B.length - 4 + e1)]) (hp' := [.box b0 113 [.int .u8 fun _ => 0, .int .u64 fun _ => 0, .str fun _ => []] true, .arr (some ⟨b1, 0, none⟩) (fun _ => B.length) (fun _ => e1) [.b8 fun _ => B] true]) [.one 0, .one 1] 0 hb rfl rfl (nodup_of rfl) rfl rfl rfl ?_ ?_
 ·cbv
  exact rf
 refine callP_by hΓ (octet_Of (some ⟨b1, 0, none⟩) a3 B.length e1 2 2 (B.length - 4 + e1) B rfl (by omega) (by omega)) [1] (by simp) ⟨⟨_, rfl, .inr ⟨rfl, rfl⟩⟩, trivial⟩ rfl ?_
 rintro x hp' ⟨rfl, rfl⟩
 refine ⟨rfl, ?_⟩
 have hw : wr .i64 (toI (ofLE (subl B 2 2))) = toI data.length := by rw [hln]; exact wr_i64 om
 cbv
 refine .no (decide_eq_false (by rw [hw]; exact om)) ?_
 cbv
 refine ⟨rf, ?_⟩
 cbv
 refine ⟨rf, ?_⟩
 cbv
 refine ⟨rf, fun a4 => ?_⟩
 cbv
 refine .mk (by rw [hw]; exact om) ?_
 cbv
 refine ⟨by rw [hw]; exact om, ?_⟩
 cbv
 refine callP_eq (args' := [.sl 1 (fun _ => a4) (fun _ => 4) (fun _ => 8) (fun _ => B.length - 12 + e1)]) (hp' := [.box b0 113 [.int .u8 fun _ => 0, .int .u64 fun _ => 0, .str fun _ => []] true, .arr (some ⟨b1, 0, none⟩) (fun _ => B.length) (fun _ => e1) [.b8 fun _ => B] true]) [.one 0, .one 1] 0 hb rfl rfl (nodup_of rfl) rfl rfl rfl ?_ ?_
 ·cbv
  exact rf
 refine callP_by hΓ (octet_Of (some ⟨b1, 0, none⟩) a4 B.length e1 4 8 (B.length - 12 + e1) B rfl (by omega) (by omega)) [1] (by simp) ⟨⟨_, rfl, .inr ⟨rfl, rfl⟩⟩, trivial⟩ rfl ?_
 rintro x hp' ⟨rfl, rfl⟩
 refine ⟨rfl, ?_⟩
 cbv
 refine ⟨rf, ?_⟩
 cbv
 refine ⟨rfl, ?_⟩
 cbv
 refine callP_eq (args' := [.int .i64 fun _ => toI B.length, .agg [.int .u8 fun _ => toI tag, .int .u64 fun _ => toI gen, .str fun _ => data]])
  (hp' := [.box b0 113 [.int .u8 fun _ => toI tag, .int .u64 fun _ => toI gen, .str fun _ => data] true, .gone (some ⟨b1, 0, none⟩) 1]) [.one 0, .one 1] 0 hb rfl rfl (nodup_of rfl) rfl rfl rfl ?_ ?_
 ·cbv
  have ed : List.drop (12 : Int).toNat (List.take (12 + wr .i64 (toI (ofLE (subl B 2 2)))).toNat B) = data := by
   have e2 : (12 + wr .i64 (toI (ofLE (subl B 2 2)))).toNat = 12 + data.length := by rw [hw]; simp only [toI]; omega
   rw [e2]
   show List.drop 12 _ = _
   rw [List.drop_take, Nat.add_sub_cancel_left]
   exact hdt
  have et : toI (B.getD (0 + Int.toNat 0) 0).toNat = toI tag := by
   show toI (B.getD 0 0).toNat = _
   rw [htg]
  (repeat' first | with_reducible rfl | exact (show Ch.base _ = _ from rfl) | ((try simp only [toI, inI, List.length_nil] at *); omega) | exact trivial | refine ⟨?_, ?_⟩ | refine ⟨?_⟩ | intro _)
  all_goals first | exact ed | exact et | (rw [hgn])
 refine callP_by hΓ (frame_Put B.length tag gen data g ht hg hd) [] (by simp) trivial rfl ?_
 rintro x hp' ⟨rfl, rfl⟩
 refine ⟨rfl, ?_⟩
 cbv
 refine .no (neF rfl) ?_
 cbv
 refine .no ?_ ?_
 ·show (!(frameB B.length tag gen data == B)) = false
  rw [hB]
  simp
 cbv
 exact Cl.tk 0 hb rfl rfl rfl ⟨rfl, rfl⟩
end Go.Proofs.YtfoffehokhkohaaGreat
