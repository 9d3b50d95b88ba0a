/- Part 14 of what is proved in the last text (packed by a program of mine). -/
import Derived.Laws.Externs
import Derived.Test.YtfoffehokhkohaaGreatK11
import Derived.Test.YtfoffehokhkohaaGreatK12
import Derived.Test.YtfoffehokhkohaaGreatK13
set_option linter.all false
set_option maxRecDepth 20000
namespace Go.Proofs.YtfoffehokhkohaaGreat
open Go
theorem clone_b (ad a : Option Addr) (n sp off len ext : Nat) (l : List UInt8) (hl : l.length = n) (h : off + len ≤ n) (hlen : len ≤ 1000000000000) :
  FnSpec Tryz.prog 184 [.arr ad (fun _ => n) (fun _ => sp) [.b8 fun _ => l] false] [.sl 0 (fun _ => a) (fun _ => off) (fun _ => len) (fun _ => ext)]
   (fun v hp => ∃ (a' ad' : Option Addr) (sp' : Nat), v = .sl 1 (fun _ => a') (fun _ => 0) (fun _ => len) (fun _ => sp') ∧
    hp = [.arr ad (fun _ => n) (fun _ => sp) [.b8 fun _ => l] false, .arr ad' (fun _ => len) (fun _ => sp') [.b8 fun _ => subl l off len] true]) := by
 refine FnSpec.know (ad = none → n = 0) rfl rfl (fun Γ w hd h0 => (hd.none 0 rfl h0).1) fun hnone => ?_
 refine spec_cl mixed F184 rfl rfl rfl (fun Γ hΓ hb => ?_)
 cbv
 refine ⟨fun hc => ?_, fun hc => ?_⟩
 ·have h0 : len = 0 := by
   cases ad with
   | none => have := hnone rfl; omega
   | some ad =>
    by_cases e : len + ext = 0
    ·omega
    ·have e' : ¬ (len = 0 ∧ ext = 0) := by omega
     simp [SV.den, e', baseA, bases, Ch.base] at hc
  subst h0
  cbv
  refine Cl.nil [.b8] rfl ?_
  cbv
  refine Cl.by (v' := .sl 1 (fun _ => none) (fun _ => 0) (fun _ => 0) (fun _ => 0)) [.one 0, .one 1] 1 hb rfl rfl (nodup_of rfl) (hp' := [.arr ad (fun _ => n) (fun _ => sp) [.b8 fun _ => l] false, .arr none (fun _ => 0) (fun _ => 0) [.b8 fun _ => subl l off 0] true]) rfl ?_ rfl ?_ ⟨none, none, 0, rfl, rfl⟩
  ·cbv
   (repeat' first | with_reducible rfl | exact (show Ch.base _ = _ from rfl) | ((try simp only [toI, inI, List.length_nil] at *); omega) | exact trivial | refine ⟨?_, ?_⟩ | refine ⟨?_⟩ | intro _)
   simp [subl]
  ·cbv
   exact rf
 ·cbv
  refine ⟨rf, fun b => ?_⟩
  cbv
  refine .any ⟨rf, fun a2 a3 ext2 _ => ?_⟩
  cbv
  refine Cl.by (v' := .sl 1 (fun _ => a3) (fun _ => 0) (fun _ => len) (fun _ => ext2)) [.one 0, .one 2] 1 hb rfl rfl (nodup_of rfl) (hp' := [.arr ad (fun _ => n) (fun _ => sp) [.b8 fun _ => l] false, .arr a2 (fun _ => len) (fun _ => ext2) [.b8 fun _ => subl l off len] true]) rfl ?_ rfl ?_ ⟨a3, a2, ext2, rfl, rfl⟩
  ·cbv
   (repeat' first | with_reducible rfl | exact (show Ch.base _ = _ from rfl) | ((try simp only [toI, inI, List.length_nil] at *); omega) | exact trivial | refine ⟨?_, ?_⟩ | refine ⟨?_⟩ | intro _)
   all_goals simp [subl]
  ·cbv
   exact rf
theorem clone_u16 (ad a : Option Addr) (n sp off len ext : Nat) (l : List Nat) (hl : l.length = n) (h : off + len ≤ n) (hlen : len ≤ 1000000000000) :
  FnSpec Tryz.prog 119 [.arr ad (fun _ => n) (fun _ => sp) [.nat .u16 fun _ => l] false] [.sl 0 (fun _ => a) (fun _ => off) (fun _ => len) (fun _ => ext)]
   (fun v hp => ∃ (a' ad' : Option Addr) (sp' : Nat), v = .sl 1 (fun _ => a') (fun _ => 0) (fun _ => len) (fun _ => sp') ∧
    hp = [.arr ad (fun _ => n) (fun _ => sp) [.nat .u16 fun _ => l] false, .arr ad' (fun _ => len) (fun _ => sp') [.nat .u16 fun _ => subl l off len] true]) := by
 refine FnSpec.know (ad = none → n = 0) rfl rfl (fun Γ w hd h0 => (hd.none 0 rfl h0).1) fun hnone => ?_
 refine spec_cl mixed F119 rfl rfl rfl (fun Γ hΓ hb => ?_)
 cbv
 refine ⟨fun hc => ?_, fun hc => ?_⟩
 ·have h0 : len = 0 := by
   cases ad with
   | none => have := hnone rfl; omega
   | some ad =>
    by_cases e : len + ext = 0
    ·omega
    ·have e' : ¬ (len = 0 ∧ ext = 0) := by omega
     simp [SV.den, e', baseA, bases, Ch.base] at hc
  subst h0
  cbv
  refine Cl.nil [.nat .u16] rfl ?_
  cbv
  refine Cl.by (v' := .sl 1 (fun _ => none) (fun _ => 0) (fun _ => 0) (fun _ => 0)) [.one 0, .one 1] 1 hb rfl rfl (nodup_of rfl) (hp' := [.arr ad (fun _ => n) (fun _ => sp) [.nat .u16 fun _ => l] false, .arr none (fun _ => 0) (fun _ => 0) [.nat .u16 fun _ => subl l off 0] true]) rfl ?_ rfl ?_ ⟨none, none, 0, rfl, rfl⟩
  ·cbv
   (repeat' first | with_reducible rfl | exact (show Ch.base _ = _ from rfl) | ((try simp only [toI, inI, List.length_nil] at *); omega) | exact trivial | refine ⟨?_, ?_⟩ | refine ⟨?_⟩ | intro _)
   simp [subl]
  ·cbv
   exact rf
 ·cbv
  refine ⟨rf, fun b => ?_⟩
  cbv
  refine .any ⟨rf, fun a2 a3 ext2 _ => ?_⟩
  cbv
  refine Cl.by (v' := .sl 1 (fun _ => a3) (fun _ => 0) (fun _ => len) (fun _ => ext2)) [.one 0, .one 2] 1 hb rfl rfl (nodup_of rfl) (hp' := [.arr ad (fun _ => n) (fun _ => sp) [.nat .u16 fun _ => l] false, .arr a2 (fun _ => len) (fun _ => ext2) [.nat .u16 fun _ => subl l off len] true]) rfl ?_ rfl ?_ ⟨a3, a2, ext2, rfl, rfl⟩
  ·cbv
   (repeat' first | with_reducible rfl | exact (show Ch.base _ = _ from rfl) | ((try simp only [toI, inI, List.length_nil] at *); omega) | exact trivial | refine ⟨?_, ?_⟩ | refine ⟨?_⟩ | intro _)
   all_goals simp [subl]
  ·cbv
   exact rf
theorem clone_u64 (ad a : Option Addr) (n sp off len ext : Nat) (l : List Nat) (hl : l.length = n) (h : off + len ≤ n) (hlen : len ≤ 1000000000000) :
  FnSpec Tryz.prog 151 [.arr ad (fun _ => n) (fun _ => sp) [.nat .u64 fun _ => l] false] [.sl 0 (fun _ => a) (fun _ => off) (fun _ => len) (fun _ => ext)]
   (fun v hp => ∃ (a' ad' : Option Addr) (sp' : Nat), v = .sl 1 (fun _ => a') (fun _ => 0) (fun _ => len) (fun _ => sp') ∧
    hp = [.arr ad (fun _ => n) (fun _ => sp) [.nat .u64 fun _ => l] false, .arr ad' (fun _ => len) (fun _ => sp') [.nat .u64 fun _ => subl l off len] true]) := by
 refine FnSpec.know (ad = none → n = 0) rfl rfl (fun Γ w hd h0 => (hd.none 0 rfl h0).1) fun hnone => ?_
 refine spec_cl mixed F151 rfl rfl rfl (fun Γ hΓ hb => ?_)
 cbv
 refine ⟨fun hc => ?_, fun hc => ?_⟩
 ·have h0 : len = 0 := by
   cases ad with
   | none => have := hnone rfl; omega
   | some ad =>
    by_cases e : len + ext = 0
    ·omega
    ·have e' : ¬ (len = 0 ∧ ext = 0) := by omega
     simp [SV.den, e', baseA, bases, Ch.base] at hc
  subst h0
  cbv
  refine Cl.nil [.nat .u64] rfl ?_
  cbv
  refine Cl.by (v' := .sl 1 (fun _ => none) (fun _ => 0) (fun _ => 0) (fun _ => 0)) [.one 0, .one 1] 1 hb rfl rfl (nodup_of rfl) (hp' := [.arr ad (fun _ => n) (fun _ => sp) [.nat .u64 fun _ => l] false, .arr none (fun _ => 0) (fun _ => 0) [.nat .u64 fun _ => subl l off 0] true]) rfl ?_ rfl ?_ ⟨none, none, 0, rfl, rfl⟩
  ·cbv
   (repeat' first | with_reducible rfl | exact (show Ch.base _ = _ from rfl) | ((try simp only [toI, inI, List.length_nil] at *); omega) | exact trivial | refine ⟨?_, ?_⟩ | refine ⟨?_⟩ | intro _)
   simp [subl]
  ·cbv
   exact rf
 ·cbv
  refine ⟨rf, fun b => ?_⟩
  cbv
  refine .any ⟨rf, fun a2 a3 ext2 _ => ?_⟩
  cbv
  refine Cl.by (v' := .sl 1 (fun _ => a3) (fun _ => 0) (fun _ => len) (fun _ => ext2)) [.one 0, .one 2] 1 hb rfl rfl (nodup_of rfl) (hp' := [.arr ad (fun _ => n) (fun _ => sp) [.nat .u64 fun _ => l] false, .arr a2 (fun _ => len) (fun _ => ext2) [.nat .u64 fun _ => subl l off len] true]) rfl ?_ rfl ?_ ⟨a3, a2, ext2, rfl, rfl⟩
  ·cbv
   (repeat' first | with_reducible rfl | exact (show Ch.base _ = _ from rfl) | ((try simp only [toI, inI, List.length_nil] at *); omega) | exact trivial | refine ⟨?_, ?_⟩ | refine ⟨?_⟩ | intro _)
   all_goals simp [subl]
  ·cbv
   exact rf
theorem clone_u32 (ad a : Option Addr) (n sp off len ext : Nat) (l : List Nat) (hl : l.length = n) (h : off + len ≤ n) (hlen : len ≤ 1000000000000) :
  FnSpec Tryz.prog 152 [.arr ad (fun _ => n) (fun _ => sp) [.nat .u32 fun _ => l] false] [.sl 0 (fun _ => a) (fun _ => off) (fun _ => len) (fun _ => ext)]
   (fun v hp => ∃ (a' ad' : Option Addr) (sp' : Nat), v = .sl 1 (fun _ => a') (fun _ => 0) (fun _ => len) (fun _ => sp') ∧
    hp = [.arr ad (fun _ => n) (fun _ => sp) [.nat .u32 fun _ => l] false, .arr ad' (fun _ => len) (fun _ => sp') [.nat .u32 fun _ => subl l off len] true]) := by
 refine FnSpec.know (ad = none → n = 0) rfl rfl (fun Γ w hd h0 => (hd.none 0 rfl h0).1) fun hnone => ?_
 refine spec_cl mixed F152 rfl rfl rfl (fun Γ hΓ hb => ?_)
 cbv
 refine ⟨fun hc => ?_, fun hc => ?_⟩
 ·have h0 : len = 0 := by
   cases ad with
   | none => have := hnone rfl; omega
   | some ad =>
    by_cases e : len + ext = 0
    ·omega
    ·have e' : ¬ (len = 0 ∧ ext = 0) := by omega
     simp [SV.den, e', baseA, bases, Ch.base] at hc
  subst h0
  cbv
  refine Cl.nil [.nat .u32] rfl ?_
  cbv
  refine Cl.by (v' := .sl 1 (fun _ => none) (fun _ => 0) (fun _ => 0) (fun _ => 0)) [.one 0, .one 1] 1 hb rfl rfl (nodup_of rfl) (hp' := [.arr ad (fun _ => n) (fun _ => sp) [.nat .u32 fun _ => l] false, .arr none (fun _ => 0) (fun _ => 0) [.nat .u32 fun _ => subl l off 0] true]) rfl ?_ rfl ?_ ⟨none, none, 0, rfl, rfl⟩
  ·cbv
   (repeat' first | with_reducible rfl | exact (show Ch.base _ = _ from rfl) | ((try simp only [toI, inI, List.length_nil] at *); omega) | exact trivial | refine ⟨?_, ?_⟩ | refine ⟨?_⟩ | intro _)
   simp [subl]
  ·cbv
   exact rf
 ·cbv
  refine ⟨rf, fun b => ?_⟩
  cbv
  refine .any ⟨rf, fun a2 a3 ext2 _ => ?_⟩
  cbv
  refine Cl.by (v' := .sl 1 (fun _ => a3) (fun _ => 0) (fun _ => len) (fun _ => ext2)) [.one 0, .one 2] 1 hb rfl rfl (nodup_of rfl) (hp' := [.arr ad (fun _ => n) (fun _ => sp) [.nat .u32 fun _ => l] false, .arr a2 (fun _ => len) (fun _ => ext2) [.nat .u32 fun _ => subl l off len] true]) rfl ?_ rfl ?_ ⟨a3, a2, ext2, rfl, rfl⟩
  ·cbv
   (repeat' first | with_reducible rfl | exact (show Ch.base _ = _ from rfl) | ((try simp only [toI, inI, List.length_nil] at *); omega) | exact trivial | refine ⟨?_, ?_⟩ | refine ⟨?_⟩ | intro _)
   all_goals simp [subl]
  ·cbv
   exact rf
theorem octet_New (ad a : Option Addr) (n sp off len ext : Nat) (l : List UInt8) (hl : l.length = n) (h : off + len ≤ n) (hlen : len ≤ 1000000000000) :
  FnSpec Tryz.prog 158 [.arr ad (fun _ => n) (fun _ => sp) [.b8 fun _ => l] false] [.sl 0 (fun _ => a) (fun _ => off) (fun _ => len) (fun _ => ext)]
   (fun v hp => ∃ (a' ad' : Option Addr) (sp' b : Nat), v = .bp 2 0 ∧
    hp = [.arr ad (fun _ => n) (fun _ => sp) [.b8 fun _ => l] false, .arr ad' (fun _ => len) (fun _ => sp') [.b8 fun _ => subl l off len] true, .box b 267 [.sl 1 (fun _ => a') (fun _ => 0) (fun _ => len) (fun _ => sp')] true]) := by
 refine spec_of mixed F158 rfl rfl rfl (fun Γ hΓ hb => ?_)
 cbv
 refine callP_by hΓ (clone_b ad a n sp off len ext l hl h hlen) [0] (by simp) ⟨⟨_, rfl, .inl rfl⟩, trivial⟩ rfl ?_
 rintro x hp' ⟨a', ad', sp', rfl, rfl⟩
 refine ⟨rfl, ?_⟩
 cbv
 intro b
 cbv
 exact ⟨a', ad', sp', b, rfl, rfl⟩
theorem octet_take (b ty : Nat) (ad a : Option Addr) (n sp off len ext k : Nat) (l : List UInt8) (hl : l.length = n) (h : off + len ≤ n) (hk : k ≤ len) (hlen : len ≤ 1000000000000) :
  FnSpec Tryz.prog 185 [.box b ty [.sl 1 (fun _ => a) (fun _ => off) (fun _ => len) (fun _ => ext)] true, .arr ad (fun _ => n) (fun _ => sp) [.b8 fun _ => l] true] [.bp 0 0, .int .i64 fun _ => toI k]
   (fun v hp => ∃ (a' a2 : Option Addr), v = .tup [.sl 1 (fun _ => a2) (fun _ => off) (fun _ => k) (fun _ => 0), .int .i64 fun _ => 0] ∧
    hp = [.box b ty [.sl 1 (fun _ => a') (fun _ => off + k) (fun _ => len - k) (fun _ => ext)] true, .arr ad (fun _ => n) (fun _ => sp) [.b8 fun _ => l] true]) := by
 refine spec_cl mixed F185 rfl rfl rfl (fun Γ hΓ hb => ?_)
 cbv
 refine ⟨fun hc => ?_, fun hc => ?_⟩
 ·exfalso; replace hc := of_decide_eq_true hc; exact om
 cbv
 refine ⟨rf, fun a2 => ?_⟩
 cbv
 refine ⟨rf, fun a1 => ?_⟩
 cbv
 refine Cl.by (v' := .tup [.sl 1 (fun _ => a2) (fun _ => off) (fun _ => k) (fun _ => 0), .int .i64 fun _ => 0]) (hp' := [.box b ty [.sl 1 (fun _ => a1) (fun _ => off + k) (fun _ => len - k) (fun _ => ext)] true, .arr ad (fun _ => n) (fun _ => sp) [.b8 fun _ => l] true]) [.one 0, .one 1] 2 hb rfl rfl (nodup_of rfl) rfl ?_ rfl ?_ ⟨a1, a2, rfl, rfl⟩
 ·cbv
  exact rf
 ·cbv
  exact rf
theorem octet_Number (b ty : Nat) (ad a : Option Addr) (n sp off len ext k : Nat) (l : List UInt8) (hl : l.length = n) (h : off + len ≤ n) (h1 : 1 ≤ k) (h8 : k ≤ 8) (hk : k ≤ len) (hlen : len ≤ 1000000000000) :
  FnSpec Tryz.prog 159 [.box b ty [.sl 1 (fun _ => a) (fun _ => off) (fun _ => len) (fun _ => ext)] true, .arr ad (fun _ => n) (fun _ => sp) [.b8 fun _ => l] true] [.bp 0 0, .int .i64 fun _ => toI k]
   (fun v hp => ∃ (a' : Option Addr), v = .tup [.int .u64 fun _ => toI (ofLE (subl l off k)), .int .i64 fun _ => 0] ∧
    hp = [.box b ty [.sl 1 (fun _ => a') (fun _ => off + k) (fun _ => len - k) (fun _ => ext)] true, .arr ad (fun _ => n) (fun _ => sp) [.b8 fun _ => l] true]) := by
 refine spec_of mixed F159 rfl rfl rfl (fun Γ hΓ hb => ?_)
 cbv
 refine ⟨fun hc => ?_, fun hc => ?_⟩
 ·exfalso; replace hc := of_decide_eq_true hc; exact om
 cbv
 refine ⟨fun h' => ?_, fun h' => ?_⟩
 ·exfalso; replace h' := of_decide_eq_true h'; exact om
 cbv
 refine callP_by hΓ (octet_take b ty ad a n sp off len ext k l hl h hk hlen) [0, 1] (by simp) ⟨⟨_, rfl, .inl rfl⟩, ⟨_, rfl, .inl rfl⟩, trivial⟩ rfl ?_
 rintro x hp' ⟨a', a2, rfl, rfl⟩
 refine ⟨rfl, ?_⟩
 cbv
 refine callP_by hΓ (octet_Of ad a2 n sp off k 0 l hl (by omega) h8) [1] (by simp) ⟨⟨_, rfl, .inr ⟨rfl, rfl⟩⟩, trivial⟩ rfl ?_
 rintro x hp' ⟨rfl, rfl⟩
 refine ⟨rfl, ?_⟩
 cbv
 exact ⟨a', rfl, rfl⟩
theorem octet_Bytes (b ty : Nat) (ad a : Option Addr) (n sp off len ext k : Nat) (l : List UInt8) (hl : l.length = n) (h : off + len ≤ n) (hk : k ≤ len) (hlen : len ≤ 1000000000000) :
  FnSpec Tryz.prog 160 [.box b ty [.sl 1 (fun _ => a) (fun _ => off) (fun _ => len) (fun _ => ext)] true, .arr ad (fun _ => n) (fun _ => sp) [.b8 fun _ => l] true] [.bp 0 0, .int .i64 fun _ => toI k]
   (fun v hp => ∃ (a' a2 ad2 : Option Addr) (sp2 : Nat), v = .tup [.sl 2 (fun _ => a2) (fun _ => 0) (fun _ => k) (fun _ => sp2), .int .i64 fun _ => 0] ∧
    hp = [.box b ty [.sl 1 (fun _ => a') (fun _ => off + k) (fun _ => len - k) (fun _ => ext)] true, .arr ad (fun _ => n) (fun _ => sp) [.b8 fun _ => l] true, .arr ad2 (fun _ => k) (fun _ => sp2) [.b8 fun _ => subl l off k] true]) := by
 refine spec_of mixed F160 rfl rfl rfl (fun Γ hΓ hb => ?_)
 cbv
 refine ⟨fun hc => ?_, fun hc => ?_⟩
 ·exfalso; replace hc := of_decide_eq_true hc; exact om
 cbv
 refine callP_by hΓ (octet_take b ty ad a n sp off len ext k l hl h hk hlen) [0, 1] (by simp) ⟨⟨_, rfl, .inl rfl⟩, ⟨_, rfl, .inl rfl⟩, trivial⟩ rfl ?_
 rintro x hp' ⟨a', a2, rfl, rfl⟩
 refine ⟨rfl, ?_⟩
 cbv
 refine callP_by hΓ (clone_b ad a2 n sp off k 0 l hl (by omega) (by omega)) [1] (by simp) ⟨⟨_, rfl, .inr ⟨rfl, rfl⟩⟩, trivial⟩ rfl ?_
 rintro x hp' ⟨a3, ad2, sp2, rfl, rfl⟩
 refine ⟨rfl, ?_⟩
 cbv
 exact ⟨a', a3, ad2, sp2, rfl, rfl⟩
theorem octet_Left (b ty : Nat) (ad a : Option Addr) (n sp off len ext : Nat) (l : List UInt8) :
  FnSpec Tryz.prog 161 [.box b ty [.sl 1 (fun _ => a) (fun _ => off) (fun _ => len) (fun _ => ext)] true, .arr ad (fun _ => n) (fun _ => sp) [.b8 fun _ => l] true] [.bp 0 0]
   (fun v hp => v = .int .i64 (fun _ => toI len) ∧
    hp = [.box b ty [.sl 1 (fun _ => a) (fun _ => off) (fun _ => len) (fun _ => ext)] true, .arr ad (fun _ => n) (fun _ => sp) [.b8 fun _ => l] true]) := by
 refine spec_of mixed F161 rfl rfl rfl (fun Γ hΓ hb => ?_)
 cbv
end Go.Proofs.YtfoffehokhkohaaGreat
namespace Go.Proofs.YtfoffehokhkohaaGreat
open Go
theorem run_overlaps_off {P : Program} (w : World) (tS tR e : TypeId) (ht : P.underlying tS = some (.slice e)) (size : Nat) (hz : ∀ w, (Go.sizeOf e).run P w = .ok size w)
  (a b : Addr) (la ca lb cb : Nat) (hne : a.block ≠ b.block) (tA tB : TypeId) (kA kB : Nat) (hsa : w.shape? a.block = some (tA, kA)) (hsb : w.shape? b.block = some (tB, kB)) (hkA : kA ≠ 0) (hkB : kB ≠ 0)
  (hor : (w.frozen? a = false ∧ w.frozen? { block := a.block, off := kA } = false) ∨ (w.frozen? b = false ∧ w.frozen? { block := b.block, off := kB } = false)) :
  (Extern.SlicesOverlaps.overlaps #[tS, tS] #[tR] #[.slice (some a) la ca, .slice (some b) lb cb]).run P w = .ok (.bool false) w := by
 have hnb : (a.block != b.block) = true := by simpa using hne
 have hnb' : (a.block == b.block) = false := by simpa using hne
 change Sem.run P (α := Value) (do
  let some t := (#[tS, tS] : Array TypeId)[0]? | stuck "slices.overlaps: no parameter types"
  let .slice elem ← underlying t | stuck "slices.overlaps: slice type expected"
  let size ← sizeOf elem
  match (some a : Option Addr), (some b : Option Addr) with
  | some a, some b =>
   if la = 0 ∨ lb = 0 ∨ size = 0 then pure (Value.bool false)
   else if a.block != b.block && (← frozen a) && (← frozen b) then unsupported .addressObserved
   else do
    if a.block != b.block then do
     noView a; noView b
     if ← mayBeOne a b then return Value.bool ((← choose (.extern "sameAddr.stringBytes" 2)) == 1)
    pure (Value.bool (a.block == b.block && a.off < b.off + lb * size && b.off < a.off + la * size))
  | _, _ => pure (Value.bool false)) w = _
 by_cases h0 : la = 0 ∨ lb = 0 ∨ size = 0
 ·simp [run_underlying ht, hz, h0]
 ·cases kB with
  | zero => exact absurd rfl hkB
  | succ kB =>
   cases kA with
   | zero => exact absurd rfl hkA
   | succ kA =>
    rcases hor with ⟨h1, h2⟩ | ⟨h1, h2⟩
    ·simp [run_underlying ht, hz, h0, hnb, hnb', frozen, noView, viewAt, mayBeOne, stringish, shape, Sem.run, hsa, hsb, h1, h2]
    ·cases hfa : w.frozen? a <;> simp [run_underlying ht, hz, h0, hnb, hnb', frozen, noView, viewAt, mayBeOne, stringish, shape, Sem.run, hsa, hsb, h1, h2, hfa]
theorem run_overlaps_nil {P : Program} (w : World) (tS tR e : TypeId) (ht : P.underlying tS = some (.slice e)) (size : Nat) (hz : ∀ w, (Go.sizeOf e).run P w = .ok size w)
  (a b : Option Addr) (la ca lb cb : Nat) (h0 : la = 0 ∨ lb = 0 ∨ a = none ∨ b = none) :
  (Extern.SlicesOverlaps.overlaps #[tS, tS] #[tR] #[.slice a la ca, .slice b lb cb]).run P w = .ok (.bool false) w := by
 change Sem.run P (α := Value) (do
  let some t := (#[tS, tS] : Array TypeId)[0]? | stuck "slices.overlaps: no parameter types"
  let .slice elem ← underlying t | stuck "slices.overlaps: slice type expected"
  let size ← sizeOf elem
  match a, b with
  | some a, some b =>
   if la = 0 ∨ lb = 0 ∨ size = 0 then pure (Value.bool false)
   else if a.block != b.block && (← frozen a) && (← frozen b) then unsupported .addressObserved
   else do
    if a.block != b.block then do
     noView a; noView b
     if ← mayBeOne a b then return Value.bool ((← choose (.extern "sameAddr.stringBytes" 2)) == 1)
    pure (Value.bool (a.block == b.block && a.off < b.off + lb * size && b.off < a.off + la * size))
  | _, _ => pure (Value.bool false)) w = _
 cases a with
 | none => simp [run_underlying ht, hz]
 | some a =>
  cases b with
  | none => simp [run_underlying ht, hz]
  | some b =>
   have : la = 0 ∨ lb = 0 ∨ size = 0 := by
    rcases h0 with h | h | h | h
    ·exact .inl h
    ·exact .inr (.inl h)
    ·cases h
    ·cases h
   simp [run_underlying ht, hz, this]
theorem shape_of_cell {w : World} {b o : Nat} (h : (w.cell? ⟨b, o, none⟩).isSome = true) : ∃ t k, w.shape? b = some (t, k) ∧ k ≠ 0 ∧ (w.cell? ⟨b, k, none⟩).isSome = false := by
 unfold World.cell? at h
 unfold World.shape? World.cell?
 cases hb : w.heap[b]? with
 | none => rw [hb] at h; cases h
 | some ob =>
  rw [hb] at h
  cases ob with
  | cells c t f =>
   simp only at h ⊢
   refine ⟨t, c.size, rfl, ?_, by simp [hb]⟩
   intro h0
   rw [Array.getElem?_eq_none (by omega)] at h
   cases h
  | _ => first | cases h | simp at h
theorem row_head {Γ : Ctx} {hp : List Ch} {w : World} {S : Nat → Nat → Prop} (d : DenS Γ hp w S) {h : Nat} {ad : Option Addr} {n sp : Th Nat} {cs : List Col} {ex : Bool} (hc : hp[h]? = some (.arr ad n sp cs ex)) (hk : 0 < cs.length)
  (a : Th (Option Addr)) (off len ext : Th Nat) (hl : off () + len () ≤ n () ∨ (ex = true ∧ off () + len () ≤ n () + sp ())) :
  len () = 0 ∨ ∃ ad0 : Addr, ad = some ad0 ∧ slAddr (bases hp) h a off len ext = some ⟨ad0.block, ad0.off + off () * cs.length, none⟩ ∧ (∃ t k, w.shape? ad0.block = some (t, k) ∧ k ≠ 0 ∧ (ex = true → plain cs = true → w.frozen? ⟨ad0.block, ad0.off + off () * cs.length, none⟩ = false ∧ w.frozen? ⟨ad0.block, k, none⟩ = false)) := by
 by_cases h0 : len () = 0
 ·exact .inl h0
 refine .inr ?_
 obtain ⟨hok, hrow⟩ := d.ch h _ hc
 have hbase : baseA (bases hp) h = ad ∧ baseK (bases hp) h = cs.length := base_at (by rw [nth_eq]; exact hc)
 cases ad with
 | none =>
  have := hrow.1; have := hrow.2.1
  rcases hl with hl | ⟨_, hl⟩ <;> omega
 | some ad0 =>
  obtain ⟨hsp, hlt, hca, hex⟩ := hrow
  have hcell : (w.cell? ⟨ad0.block, ad0.off + off () * cs.length, none⟩).isSome = true := by
   have big : ∀ N, off () + len () ≤ N → off () * cs.length < N * cs.length := fun N hN => Nat.mul_lt_mul_of_pos_right (by omega) hk
   rcases hl with hl | ⟨he, hl⟩
   ·have hlt2 : off () * cs.length < (flat cs (n ())).length := by rw [length_flat]; exact big _ hl
    rw [hca (off () * cs.length) _ (List.getElem?_eq_getElem hlt2)]
    rfl
   ·subst he
    exact (hex.2.1 _ (big _ hl)).2
  obtain ⟨t, k, h1, h2, h3⟩ := shape_of_cell hcell
  refine ⟨ad0, rfl, ?_, t, k, h1, h2, fun he hp => ?_⟩
  ·rw [slAddr_pos (by omega), hbase.1, hbase.2]; rfl
  ·subst he
   have hr := hex.2
   refine ⟨?_, hr.2 hp _ h3⟩
   refine (hr.1 (off () * cs.length) ?_).1
   have : off () + len () ≤ n () + sp () := by rcases hl with hl | ⟨_, hl⟩ <;> omega
   exact Nat.mul_lt_mul_of_pos_right (by omega) hk
theorem overlaps_call {Γ : Ctx} {f : FuncId} {fn : Func} {tS tR e size : Nat} (hf : Γ.P.funcs[f]? = some fn) (hname : (fn.name == "runtime.NumGoroutine") = false) (hb : fn.body.isNone = true) (hn : Extern.findNext fn = none)
  (he : Extern.find fn = some (Extern.SlicesOverlaps.overlaps #[tS, tS] #[tR])) (ht : Γ.P.underlying tS = some (.slice e)) (hz : ∀ w, (Go.sizeOf e).run Γ.P w = .ok size w)
  {hp : List Ch} {K : KV} {h1 h2 : Nat} {a1 a2 : Th (Option Addr)} {off1 len1 ext1 off2 len2 ext2 n1 sp1 n2 sp2 : Th Nat} {ad1 ad2 : Option Addr} {cs1 cs2 : List Col} {ex1 ex2 : Bool}
  (hc1 : hp[h1]? = some (.arr ad1 n1 sp1 cs1 ex1)) (hc2 : hp[h2]? = some (.arr ad2 n2 sp2 cs2 ex2)) (hne : (h1 == h2) = false) (hk1 : Nat.ble 1 cs1.length = true) (hk2 : Nat.ble 1 cs2.length = true)
  (hor : ((ex1 && plain cs1) || (ex2 && plain cs2)) = true)
  (hl1 : off1 () + len1 () ≤ n1 () ∨ (ex1 = true ∧ off1 () + len1 () ≤ n1 () + sp1 ())) (hl2 : off2 () + len2 () ≤ n2 () ∨ (ex2 = true ∧ off2 () + len2 () ≤ n2 () + sp2 ()))
  (h : K .ff hp) : CallP Γ f [.sl h1 a1 off1 len1 ext1, .sl h2 a2 off2 len2 ext2] hp K := by
 refine ⟨fun w hd => ?_⟩
 have hk1 := Nat.le_of_ble_eq_true hk1
 have hk2 := Nat.le_of_ble_eq_true hk2
 have hne : h1 ≠ h2 := by simpa using hne
 have hd0 := hd
 obtain ⟨S, d⟩ := hd
 have fin : (Extern.SlicesOverlaps.overlaps #[tS, tS] #[tR] (SV.denL (bases hp) [.sl h1 a1 off1 len1 ext1, .sl h2 a2 off2 len2 ext2]).toArray).run Γ.P w = .ok (.bool false) w := by
  simp only [SV.denL, sl_den]
  rcases row_head d hc1 hk1 a1 off1 len1 ext1 hl1 with h0 | ⟨b1, e1, g1, t1, k1, s1, z1, p1⟩
  ·exact run_overlaps_nil w tS tR e ht size hz _ _ _ _ _ _ (.inl h0)
  rcases row_head d hc2 hk2 a2 off2 len2 ext2 hl2 with h0 | ⟨b2, e2, g2, t2, k2, s2, z2, p2⟩
  ·exact run_overlaps_nil w tS tR e ht size hz _ _ _ _ _ _ (.inr (.inl h0))
  rw [g1, g2]
  subst e1; subst e2
  have c1 := (d.ch h1 _ hc1).2
  have c2 := (d.ch h2 _ hc2).2
  have hblk : b1.block ≠ b2.block := by
   intro heq
   cases ex1 with
   | true =>
    have o1 : S h1 b1.block := (c1.2.2.2.1 _).2 rfl
    cases ex2 with
    | true =>
     have o2 : S h2 b2.block := (c2.2.2.2.1 _).2 rfl
     exact hne (d.dj h1 h2 b1.block o1 (heq ▸ o2))
    | false =>
     obtain ⟨_, q1, q2⟩ := c2.2.2.2
     exact q2 (heq ▸ d.own h1 b1.block o1 (heq ▸ q1))
   | false =>
    cases ex2 with
    | true =>
     have o2 : S h2 b2.block := (c2.2.2.2.1 _).2 rfl
     obtain ⟨_, q1, q2⟩ := c1.2.2.2
     exact q2 (heq ▸ d.own h2 b2.block o2 (heq ▸ q1))
    | false => simp at hor
  refine run_overlaps_off w tS tR e ht size hz _ _ _ _ _ _ hblk t1 t2 k1 k2 s1 s2 z1 z2 ?_
  simp only [Bool.or_eq_true, Bool.and_eq_true] at hor
  rcases hor with ⟨x1, x2⟩ | ⟨x1, x2⟩
  ·exact .inl (p1 x1 x2)
  ·exact .inr (p2 x1 x2)
 unfold FCalls
 rw [run_callFunc_extern hf hname hb hn he, fin]
 exact ⟨.ff, hp, rfl, rfl, hd0, ExtB.refl _, h⟩
def rowAt (ad : Option Addr) (o m : Nat) : Option Addr := if m = 0 then none else ad.map fun ad => ⟨ad.block, ad.off + o, none⟩
theorem DenH.carve {Γ : Ctx} {hp : List Ch} {w : World} (hd : DenH Γ hp w) {h : Nat} {ad : Option Addr} {n sp : Th Nat} {cs : List Col} (hc : hp[h]? = some (.arr ad n sp cs true)) (a : Th (Option Addr)) (off len ext : Th Nat)
  (h1 : off () + len () ≤ n ()) (h2 : off () + len () + ext () ≤ n () + sp ()) :
  DenH Γ (hp.set h (.gone ad cs.length) ++ [.arr (rowAt ad (off () * cs.length) (len () + ext ())) len ext (cutCols off len cs) true]) w := by
 have hlc : (cutCols off len cs).length = cs.length := by simp [cutCols_eq]
 by_cases h0 : len () + ext () = 0
 ·unfold rowAt
  rw [if_pos h0]
  obtain ⟨S, d⟩ := hd
  have hok := (d.ch h _ hc).1
  refine DenH.push0 (set_gone hp h _ hc ⟨S, d⟩ (a := ad) (n := cs.length) rfl) ⟨cut_len (m := len) hok h1, ?_⟩
  exact ⟨by omega, by omega, fun _ h => h⟩
 ·unfold rowAt
  rw [if_neg h0]
  cases ad with
  | none =>
   obtain ⟨S, d⟩ := hd
   have := (d.ch h _ hc).2
   have := this.1; have := (d.ch h _ hc).2.2.1
   omega
  | some ad =>
   refine hd.move hc (c' := .gone (some ad) cs.length) (d := .arr (some ⟨ad.block, ad.off + off () * cs.length, Option.none⟩) len ext (cutCols off len cs) true) rfl rfl rfl rfl (Nat.le_refl _) fun S2 hS2 hown => ?_
   obtain ⟨hok, hsp, hlt, hca, hSx2, hroom⟩ := hS2
   refine ⟨fun x _ _ => rfl, fun _ => False, fun x => x = ad.block, fun _ h => h.elim, fun x hx => .inl ((hSx2 x).2 hx), fun _ h _ => h, fun _ h => h, cut_len (m := len) hok h1, rfl, hlt, CellsAt.cut (m := len) hca (fun c hc => (hok c hc).1) h1, ?_⟩
   simp only [if_true]
   refine ⟨fun _ => by simp, ?_⟩
   rw [hlc]
   have hfit : off () * cs.length + (len () + ext ()) * cs.length ≤ (n () + sp ()) * cs.length := by
    rw [← Nat.add_mul]; exact Nat.mul_le_mul_right _ (by omega)
   exact (hroom.sub _ _ hfit).to fun hp => plain_cut hp
theorem Cl.carve {Γ : Ctx} {R : KV} {hp : List Ch} (h : Nat) {ad : Option Addr} {a : Th (Option Addr)} {off len ext n sp : Th Nat} {cs : List Col} (hc : hp[h]? = some (.arr ad n sp cs true)) (h1 : off () + len () ≤ n ()) (h2 : off () + len () + ext () ≤ n () + sp ())
  (K : ∀ a2 a3 : Option Addr, Cl Γ R (.sl hp.length (fun _ => a3) (fun _ => 0) len ext) (hp.set h (.gone ad cs.length) ++ [.arr a2 len ext (cutCols off len cs) true])) : Cl Γ R (.sl h a off len ext) hp := by
 obtain ⟨v, hp', k1, k2, k3⟩ := (K (rowAt ad (off () * cs.length) (len () + ext ())) (slAddr (bases hp) h a off len ext)).h
 refine ⟨⟨v, hp', fun w hd => ?_, k2, k3⟩⟩
 obtain ⟨k4, k5⟩ := k1 w (hd.carve hc a off len ext h1 h2)
 refine ⟨k4, ?_⟩
 rw [← k5, sl_den, sl_den]
 congr 1
 by_cases h0 : len () + ext () = 0
 ·simp [slAddr, SV.den, h0]
 ·have hbase : baseA (bases hp) h = ad ∧ baseK (bases hp) h = cs.length := base_at (by rw [nth_eq]; exact hc)
  have hb2 : baseA (bases (hp.set h (.gone ad cs.length) ++ [Ch.arr (rowAt ad (off () * cs.length) (len () + ext ())) len ext (cutCols off len cs) true])) hp.length = rowAt ad (off () * cs.length) (len () + ext ()) :=
   (base_at (c := .arr (rowAt ad (off () * cs.length) (len () + ext ())) len ext (cutCols off len cs) true) (by rw [nth_eq, List.getElem?_append_right (by simp), List.length_set, Nat.sub_self]; rfl)).1
  rw [slAddr_pos h0, slAddr_pos h0, hb2, hbase.1, hbase.2]
  unfold rowAt
  rw [if_neg h0]
  cases ad <;> simp
end Go.Proofs.YtfoffehokhkohaaGreat
set_option maxRecDepth 20000
namespace Go.Proofs.YtfoffehokhkohaaGreat
open Go
def wh (l : List Nat) (k : Nat) : Nat := (l.takeWhile fun a => decide (a < k)).length
theorem wh_le (l : List Nat) (k : Nat) : wh l k ≤ l.length := (List.takeWhile_sublist _).length_le
theorem wh_eq : ∀ {l : List Nat} {k i : Nat}, i ≤ l.length → (∀ p, p < i → l.getD p 0 < k) → (i < l.length → k ≤ l.getD i 0) → wh l k = i
 | [], k, i, h0, _, _ => by simp at h0; subst h0; rfl
 | a :: l, k, 0, _, _, h2 => by
  have := h2 (by simp)
  unfold wh
  rw [List.takeWhile_cons_of_neg (by simpa using this)]
  rfl
 | a :: l, k, i + 1, h0, h1, h2 => by
  have ha : a < k := h1 0 (by omega)
  have := wh_eq (l := l) (k := k) (i := i) (by simpa using h0) (fun p hp => h1 (p + 1) (by omega)) (fun h => h2 (by simpa using h))
  unfold wh at this ⊢
  rw [List.takeWhile_cons_of_pos (by simpa using ha), List.length_cons, this]
theorem wh_lt {l : List Nat} {k p : Nat} (h : p < wh l k) : l.getD p 0 < k := by
 unfold wh at h
 have h1 : (l.takeWhile fun a => decide (a < k))[p]'h ∈ l.takeWhile fun a => decide (a < k) := List.getElem_mem _
 have h0 : (l.takeWhile fun a => decide (a < k)).all (fun a => decide (a < k)) = true := List.all_takeWhile
 have h2 : decide ((l.takeWhile fun a => decide (a < k))[p]'h < k) = true := List.all_eq_true.1 h0 _ h1
 have h3 : l[p]? = some ((l.takeWhile fun a => decide (a < k))[p]'h) := by
  obtain ⟨t, ht⟩ := List.takeWhile_prefix (l := l) (p := fun a => decide (a < k))
  have : l[p]? = (List.takeWhile (fun a => decide (a < k)) l ++ t)[p]? := by rw [ht]
  rw [this, List.getElem?_append_left h, List.getElem?_eq_getElem h]
 rw [List.getD_eq_getElem?_getD, h3]
 simpa using h2
theorem wh_ge : ∀ {l : List Nat} {k : Nat}, wh l k < l.length → k ≤ l.getD (wh l k) 0
 | [], k, h => by simp at h
 | a :: l, k, h => by
  unfold wh at h ⊢
  by_cases ha : a < k
  ·rw [List.takeWhile_cons_of_pos (by simpa using ha), List.length_cons] at h ⊢
   have := wh_ge (l := l) (k := k) (by unfold wh; simpa using h)
   unfold wh at this
   simpa using this
  ·rw [List.takeWhile_cons_of_neg (by simpa using ha)]
   simp
   omega
def isAt (l : List Nat) (k : Nat) : Bool := decide (wh l k < l.length) && (l.getD (wh l k) 0 == k)
theorem Cl.den {Γ : Ctx} {R : KV} {v v' : SV} {hp : List Ch} (h : Cl Γ R v' hp) (he : v.den (bases hp) = v'.den (bases hp)) : Cl Γ R v hp := by
 obtain ⟨v2, hp2, k1, k2, k3⟩ := h.h
 exact ⟨⟨v2, hp2, fun w hd => ⟨(k1 w hd).1, he.trans (k1 w hd).2⟩, k2, k3⟩⟩
theorem isNaN_100 (x : Nat) : FnSpec Tryz.prog 100 [] [.int .u64 fun _ => toI x] (fun v hp => v = .ff ∧ hp = []) := by
 refine spec_cl mixed F100 rfl rfl rfl (fun Γ hΓ hb => ?_)
 cbv
 refine Cl.byd (v' := .ff) (hp' := []) [] 0 hb rfl rfl (by simp [unders]) rfl trivial rfl ?_ ⟨rfl, rfl⟩
 show Value.bool (toI x != toI x) = Value.bool false
 simp
theorem isNaN_153 (x : Nat) : FnSpec Tryz.prog 153 [] [.int .u64 fun _ => toI x] (fun v hp => v = .ff ∧ hp = []) := by
 refine spec_cl mixed F153 rfl rfl rfl (fun Γ hΓ hb => ?_)
 cbv
 refine Cl.byd (v' := .ff) (hp' := []) [] 0 hb rfl rfl (by simp [unders]) rfl trivial rfl ?_ ⟨rfl, rfl⟩
 show Value.bool (toI x != toI x) = Value.bool false
 simp
theorem less_u64 (x y : Nat) : FnSpec Tryz.prog 99 [] [.int .u64 fun _ => toI x, .int .u64 fun _ => toI y] (fun v hp => v = .bl (fun _ => decide (toI x < toI y)) ∧ hp = []) := by
 refine spec_cl mixed F99 rfl rfl rfl (fun Γ hΓ hb => ?_)
 cbv
 refine cP hΓ (isNaN_153 x) [] ?_
 rintro x hp' ⟨rfl, rfl⟩
 refine ⟨rfl, ?_⟩
 cbv
 refine Cl.take 0 (.bl fun _ => decide (toI x < toI y)) hb rfl rfl ⟨rfl⟩ rfl ⟨rfl, rfl⟩
theorem binSearch (n N sp ext key : Nat) (a ad : Option Addr) (l : List Nat) (hl : l.length = n) (hN : n < 1000000000) (hs : l.Pairwise (· < ·)) (hk : key < 18446744073709551616) (hlt : ∀ x ∈ l, x < 18446744073709551616) :
  FnSpec Tryz.prog 45 [.arr ad (fun _ => n) (fun _ => sp) [.nat .u64 fun _ => l] false] [.sl 0 (fun _ => a) (fun _ => 0) (fun _ => n) (fun _ => ext), .int .u64 fun _ => toI key]
   (fun v hp => v = .tup [.int .i64 fun _ => toI (wh l key), .bl fun _ => isAt l key] ∧ hp = [.arr ad (fun _ => n) (fun _ => sp) [.nat .u64 fun _ => l] false]) := by
 have hmono : ∀ p q, p < q → q < n → l.getD p 0 < l.getD q 0 := fun p q h1 h2 => by
  rw [List.getD_eq_getElem?_getD, List.getD_eq_getElem?_getD, List.getElem?_eq_getElem (by omega), List.getElem?_eq_getElem (by omega)]
  exact List.pairwise_iff_getElem.1 hs p q (by omega) (by omega) h1
 refine spec_cl mixed F45 rfl rfl rfl (fun Γ hΓ hb => ?_)
 cbv
 refine loopJ (α := Nat × Nat) (fun (i, j) => i ≤ j ∧ j ≤ n ∧ (∀ p, p < i → l.getD p 0 < key) ∧ (∀ p, j ≤ p → p < n → key ≤ l.getD p 0)) (fun (i, j) => ⟨54, [(0, .sl 0 (fun _ => a) (fun _ => 0) (fun _ => n) (fun _ => ext)), (1, .int .u64 fun _ => toI key), (6, .int .i64 fun _ => toI n), (7, .int .i64 fun _ => toI i), (8, .int .i64 fun _ => toI j)],
  [.arr ad (fun _ => n) (fun _ => sp) [.nat .u64 fun _ => l] false], []⟩) (fun (i, j) => j - i) (0, n) ⟨Nat.zero_le _, Nat.le_refl _, fun p h => absurd h (Nat.not_lt_zero _), fun p h1 h2 => by omega⟩ (sub2 [0] 1 hb rfl rfl rfl rfl rfl rfl rfl rfl ?_) ?_
 ·cbv
  exact rf
 rintro ⟨i, j⟩ hJ
 have hJ : i ≤ j ∧ j ≤ n ∧ (∀ p, p < i → l.getD p 0 < key) ∧ (∀ p, j ≤ p → p < n → key ≤ l.getD p 0) := hJ
 obtain ⟨hij, hjn, h1, h2⟩ := hJ
 cbv
 refine ⟨fun hc => ?_, fun hc => ?_⟩
 ·replace hc := toI_lt hc
  cbv
  refine .mk rf ?_
  cbv
  refine VC.mk rf ?_
  cbv
  obtain ⟨m, hm⟩ : ∃ m, m = (i + j) / 2 := ⟨_, rfl⟩
  have hmi : i ≤ m := by omega
  have hmj : m < j := by omega
  have e1 : wr .i64 (ari .shr .u64 (wr .u64 (toI i + toI j)) 1) = toI m := by
   rw [wr_u64 om om]
   have e2 : ari .shr .u64 (toI i + toI j) 1 = (toI i + toI j).fdiv 2 := rfl
   have e3 : (toI i + toI j).fdiv 2 = toI m := by
    rw [Int.fdiv_eq_ediv_of_nonneg _ (by omega), hm]
    simp only [toI]
    omega
   rw [e2, e3]
   exact wr_i64 om
  rw [e1]
  refine VC.mk rf ?_
  cbv
  refine VC.mk rf ?_
  cbv
  have hg : 0 + (toI m).toNat = m := by rw [toI_toNat]; omega
  rw [hg]
  obtain ⟨x, hx⟩ : ∃ x, l.getD m 0 = x := ⟨_, rfl⟩
  rw [hx]
  refine cP hΓ (less_u64 x key) [] ?_
  rintro x hp' ⟨rfl, rfl⟩
  refine ⟨rfl, ?_⟩
  cbv
  refine ⟨fun hc => ?_, fun hc => ?_⟩
  ·replace hc := toI_lt hc
   cbv
   refine .mk rf ?_
   cbv
   refine ⟨(m + 1, j), ⟨hmj, hjn, fun p hp => ?_, h2⟩, by show j - (m + 1) < j - i; omega, sub2 [0] 1 hb rfl rfl rfl rfl rfl rfl rfl rfl ?_⟩
   ·by_cases hpm : p = m
    ·subst hpm; omega
    ·have := hmono p m (by omega) (by omega); omega
   cbv
   exact rf
  ·replace hc := toI_nlt hc
   cbv
   refine ⟨(i, m), ⟨hmi, by omega, h1, fun p hp1 hp2 => ?_⟩, by show m - i < j - i; omega, sub2 [0] 1 hb rfl rfl rfl rfl rfl rfl rfl rfl ?_⟩
   ·by_cases hpm : p = m
    ·subst hpm; omega
    ·have := hmono m p (by omega) (by omega); omega
   cbv
   exact rf
 ·replace hc := toI_nlt hc
  have hw : wh l key = i := wh_eq (by omega) h1 (fun h => h2 i (by omega) (by omega))
  have hia : isAt l key = (decide (i < n) && (l.getD i 0 == key)) := by unfold isAt; rw [hw, hl]
  rw [hw, hia]
  cbv
  refine ⟨fun hc2 => ?_, fun hc2 => ?_⟩
  ·replace hc2 := toI_lt hc2
   cbv
   repeat ((first | refine VC.mk rf ?_ | refine ADD.mk rf ?_); cbv)
   have hg : 0 + (toI i).toNat = i := by rw [toI_toNat]; omega
   rw [hg]
   obtain ⟨x, hx⟩ : ∃ x, l.getD i 0 = x := ⟨_, rfl⟩
   rw [hx]
   refine ⟨fun hc3 => ?_, fun hc3 => ?_⟩
   ·have hxk : x = key := by have := eq_of_beq hc3; exact om
    cbv
    refine Cl.den (v' := .tup [.int .i64 fun _ => toI i, .bl fun _ => decide (i < n) && x == key]) (Cl.same rfl ⟨rfl, rfl⟩) ?_
    simp [SV.den, SV.denL, hxk, hc2]
   ·have hxk : x ≠ key := fun h => by rw [h] at hc3; simp at hc3
    cbv
    repeat ((first | refine VC.mk rf ?_ | refine ADD.mk rf ?_); cbv)
    rw [hg, hx]
    refine cP hΓ (isNaN_100 x) [] ?_
    rintro x hp' ⟨rfl, rfl⟩
    refine ⟨rfl, ?_⟩
    cbv
    refine Cl.den (v' := .tup [.int .i64 fun _ => toI i, .bl fun _ => decide (i < n) && x == key]) (Cl.same rfl ⟨rfl, rfl⟩) ?_
    simp [SV.den, SV.denL, hxk, hc2]
  ·replace hc2 := toI_nlt hc2
   cbv
   refine Cl.den (v' := .tup [.int .i64 fun _ => toI i, .bl fun _ => decide (i < n) && l.getD i 0 == key]) (Cl.same rfl ⟨rfl, rfl⟩) ?_
   simp [SV.den, SV.denL, Nat.not_lt.2 hc2]
end Go.Proofs.YtfoffehokhkohaaGreat
set_option maxRecDepth 20000
namespace Go.Proofs.YtfoffehokhkohaaGreat
open Go
theorem ins1 (l lv : List Nat) (i m L : Nat) (hl : l.length = L) (hv : lv.length = m) (hi : i + m ≤ L) :
  overC (overC (l.take i ++ List.replicate (L + m - i) 0) i (lv.take m)) (i + m) ((l.drop i).take (L - i)) = l.take i ++ lv ++ l.drop i := by
 have h1 : (l.take i).length = i := by rw [List.length_take]; omega
 have h2 : lv.take m = lv := List.take_of_length_le (by omega)
 have h3 : (l.drop i).take (L - i) = l.drop i := List.take_of_length_le (by rw [List.length_drop]; omega)
 have e1 : overC (l.take i ++ List.replicate (L + m - i) 0) i lv = l.take i ++ lv ++ List.replicate (L - i) 0 := by
  unfold overC
  rw [List.take_left' h1, hv, ← List.drop_drop, List.drop_left' h1, List.drop_replicate]
  congr 2
  omega
 rw [h2, h3, e1]
 unfold overC
 have h4 : (l.take i ++ lv).length = i + m := by rw [List.length_append, h1, hv]
 have h7 : (l.take i ++ lv ++ List.replicate (L - i) 0).drop (i + m + (l.drop i).length) = [] := List.drop_of_length_le (by rw [List.length_append, h4, List.length_replicate, List.length_drop]; omega)
 rw [List.take_left' h4, h7, List.append_nil]
theorem ins2 (l lv : List Nat) (i m L : Nat) (hl : l.length = L) (hv : lv.length = m) (hi : i + m ≤ L) :
  (overC (l.take (i + m) ++ (l.drop i).take (L - i)) i (lv.take m)).take (L + m) = l.take i ++ lv ++ l.drop i := by
 have h2 : lv.take m = lv := List.take_of_length_le (by omega)
 have h3 : (l.drop i).take (L - i) = l.drop i := List.take_of_length_le (by rw [List.length_drop]; omega)
 have h5 : (l.take (i + m)).length = i + m := by rw [List.length_take]; omega
 rw [h2, h3]
 unfold overC
 have h6 : (l.take (i + m) ++ l.drop i).take i = l.take i := by rw [List.take_append_of_le_length (by omega), List.take_take, Nat.min_eq_left (by omega)]
 rw [hv, List.drop_left' h5, h6]
 apply List.take_of_length_le
 simp
 omega
set_option maxHeartbeats 1000000 in
theorem insert_u64 (ad ad2 a a2 : Option Addr) (L e i m s2 e2 : Nat) (l lv : List Nat) (hl : l.length = L) (hv : lv.length = m) (hL : L ≤ 1000000) (hm : m ≤ 1000000) (hm1 : 1 ≤ m) (hi : i = L ∨ i + m ≤ L) :
  FnSpec Tryz.prog 140 [.arr ad (fun _ => L) (fun _ => e) [.nat .u64 fun _ => l] true, .arr ad2 (fun _ => m) (fun _ => s2) [.nat .u64 fun _ => lv] false] [.sl 0 (fun _ => a) (fun _ => 0) (fun _ => L) (fun _ => e), .int .i64 fun _ => toI i, .sl 1 (fun _ => a2) (fun _ => 0) (fun _ => m) (fun _ => e2)]
   (fun v hp => ∃ (a' ad' : Option Addr) (e' : Nat), v = .sl 2 (fun _ => a') (fun _ => 0) (fun _ => L + m) (fun _ => e') ∧
    hp = [.gone ad 1, .arr ad2 (fun _ => m) (fun _ => s2) [.nat .u64 fun _ => lv] false, .arr ad' (fun _ => L + m) (fun _ => e') [.nat .u64 fun _ => l.take i ++ lv ++ l.drop i] true]) := by
 refine spec_cl mixed F140 rfl rfl rfl (fun Γ hΓ hb => ?_)
 cbv
 refine ⟨rf, fun a3 => ?_⟩
 cbv
 refine .no (decide_eq_false om) ?_
 cbv
 refine ⟨fun hc => ?_, fun hc => ?_⟩
 ·replace hc : toI i = toI L := by simpa using hc
  have hc : i = L := by exact om
  subst hc
  have e0 : l.take i ++ lv ++ l.drop i = l ++ lv := by rw [← hl, List.take_length, List.drop_length, List.append_nil]
  rw [e0]
  cbv
  refine .any (VC.mk rf fun a4 a5 x4 hx4 => ?_)
  cbv
  refine Cl.by (v' := .sl 2 (fun _ => a5) (fun _ => 0) (fun _ => i + m) (fun _ => x4)) [.one 0, .one 1, .one 2] 2 hb rfl rfl (nodup_of rfl)
   (hp' := [.gone ad 1, .arr ad2 (fun _ => m) (fun _ => s2) [.nat .u64 fun _ => lv] false, .arr a4 (fun _ => i + m) (fun _ => x4) [.nat .u64 fun _ => l ++ lv] true]) rfl ?_ rfl ?_ ⟨a5, a4, x4, rfl, rfl⟩
  ·cbv
   (repeat' first | with_reducible rfl | exact (show Ch.base _ = _ from rfl) | ((try simp only [toI, inI, List.length_nil] at *); omega) | exact trivial | refine ⟨?_, ?_⟩ | refine ⟨?_⟩ | intro _)
   simp [List.take_of_length_le (Nat.le_of_eq hl), List.take_of_length_le (Nat.le_of_eq hv)]
  ·cbv
   exact rf
 ·replace hc : ¬ toI i = toI L := by simpa using hc
  have hi2 : i + m ≤ L := by rcases hi with h | h; exact absurd (by rw [h]) hc; exact h
  cbv
  refine .mk rf ?_
  cbv
  refine ⟨fun hg => ?_, fun hg => ?_⟩
  ·replace hg : toI (L + e) < toI L + toI m := of_decide_eq_true hg
   cbv
   refine VC.mk rf fun a4 => ?_
   cbv
   refine .mk rf ?_
   cbv
   refine VC.mk rf ?_
   cbv
   refine .new (VC.mk rf fun a5 x5 => ?_)
   cbv
   refine VC.mk rf fun a6 => ?_
   cbv
   refine .inn (VC.mk rf ?_)
   cbv
   refine .mk rf ?_
   cbv
   refine VC.mk rf fun a7 => ?_
   cbv
   refine VC.mk rf fun a8 => ?_
   cbv
   refine .inn (VC.mk rf ?_)
   cbv
   refine Cl.by (v' := .sl 2 (fun _ => a5) (fun _ => 0) (fun _ => L + m) (fun _ => x5)) [.one 0, .one 1, .one 2] 2 hb rfl rfl (nodup_of rfl)
    (hp' := [.gone ad 1, .arr ad2 (fun _ => m) (fun _ => s2) [.nat .u64 fun _ => lv] false, .arr a5 (fun _ => L + m) (fun _ => x5) [.nat .u64 fun _ => l.take i ++ lv ++ l.drop i] true]) rfl ?_ rfl ?_ ⟨a5, a5, x5, rfl, rfl⟩
   ·cbv
    (repeat' first | with_reducible rfl | exact (show Ch.base _ = _ from rfl) | ((try simp only [toI, inI, List.length_nil] at *); omega) | exact trivial | refine ⟨?_, ?_⟩ | refine ⟨?_⟩ | intro _)
    have n1 : (toI L + toI m - toI i).toNat = L + m - i := by exact om
    have n2 : (toI i + toI m).toNat = i + m := by exact om
    simp only [toI_toNat, n1, n2, Nat.zero_add, Nat.sub_zero, List.drop_zero]
    rw [show min m (i + (L + m - i) - i) = m by omega, show min (L - i) (i + (L + m - i) - (i + m)) = L - i by omega]
    exact ins1 l lv i m L hl hv hi2
   ·cbv
    exact rf
  ·replace hg : ¬ toI (L + e) < toI L + toI m := of_decide_eq_false hg
   cbv
   refine .mk rf ?_
   cbv
   refine VC.mk rf fun a4 => ?_
   cbv
   refine .mk rf ?_
   cbv
   refine VC.mk rf fun a5 => ?_
   cbv
   refine overlaps_call (fn := _) (tS := _) (tR := _) (e := _) (size := _) (by rw [hΓ]; rfl) rfl rfl rfl rfl (by rw [hΓ]; rfl) (by rw [hΓ]; intro w; rfl) rfl rfl rfl rfl rfl rfl rf (.inr ⟨rfl, rf⟩) ?_
   cbv
   refine .mk rf ?_
   cbv
   refine VC.mk rf fun a6 => ?_
   cbv
   refine VC.mk rf fun a7 => ?_
   cbv
   refine .ext (VC.mk rf ?_)
   cbv
   refine VC.mk rf fun a8 => ?_
   cbv
   refine .inn (VC.mk rf ?_)
   cbv
   refine Cl.carve 0 rfl rf rf fun a9 a10 => ?_
   cbv
   refine Cl.by (v' := .sl 2 (fun _ => a10) (fun _ => 0) (fun _ => L + m) (fun _ => e - m)) [.one 0, .one 1, .one 2] 2 hb rfl rfl (nodup_of rfl)
    (hp' := [.gone ad 1, .arr ad2 (fun _ => m) (fun _ => s2) [.nat .u64 fun _ => lv] false, .arr a9 (fun _ => L + m) (fun _ => e - m) [.nat .u64 fun _ => l.take i ++ lv ++ l.drop i] true]) rfl ?_ rfl ?_ ⟨a10, a9, e - m, rfl, rfl⟩
   ·cbv
    (repeat' first | with_reducible rfl | exact (show Ch.base _ = _ from rfl) | ((try simp only [toI, inI, List.length_nil] at *); omega) | exact trivial | refine ⟨?_, ?_⟩ | refine ⟨?_⟩ | intro _)
    have n1 : (toI L + toI m).toNat = L + m := by exact om
    have n2 : (toI i + toI m).toNat = i + m := by exact om
    simp only [toI_toNat, n1, n2, Nat.zero_add, Nat.sub_zero, List.drop_zero]
    rw [show min (L + m - i) (L + m - (i + m)) = L - i by omega, show min m (L + m - i) = m by omega]
    exact ins2 l lv i m L hl hv hi2
   ·cbv
    exact rf
end Go.Proofs.YtfoffehokhkohaaGreat
set_option maxRecDepth 20000
namespace Go.Proofs.YtfoffehokhkohaaGreat
open Go
theorem ins0 (p q w : List Nat) (Z : Nat) (hZ : Z = q.length + w.length) : overC (overC (p ++ List.replicate Z 0) p.length q) (p.length + q.length) w = p ++ q ++ w := by
 have e1 : overC (p ++ List.replicate Z 0) p.length q = p ++ q ++ List.replicate w.length 0 := by
  unfold overC
  rw [List.take_left' rfl, ← List.drop_drop, List.drop_left' rfl, List.drop_replicate]
  congr 2
  omega
 rw [e1]
 unfold overC
 have h4 : (p ++ q).length = p.length + q.length := List.length_append
 have h7 : (p ++ q ++ List.replicate w.length 0).drop (p.length + q.length + w.length) = [] := List.drop_of_length_le (by rw [List.length_append, h4, List.length_replicate]; omega)
 rw [List.take_left' h4, h7, List.append_nil]
theorem repD (l lv z : List Nat) (i m L T : Nat) (hl : l.length = L) (hv : lv.length = m) (hm : m ≤ 1) (hi : i + 1 < L) (hT : T = L - 1 + m) (hz : z.length = L - T) :
  (overC (overC (overC l i lv) (i + m) ((overC l i lv).drop (i + 1))) T z).take T = l.take i ++ lv ++ l.drop (i + 1) := by
 have hA : (overC l i lv).length = L := by rw [length_overC _ _ _ (by omega), hl]
 have hB : ((overC l i lv).drop (i + 1)).length = L - (i + 1) := by rw [List.length_drop, hA]
 have hC : (overC (overC l i lv) (i + m) ((overC l i lv).drop (i + 1))).length = L := by rw [length_overC _ _ _ (by omega), hA]
 apply List.ext_getElem?
 intro q
 have h1 : (l.take i).length = i := by rw [List.length_take]; omega
 rw [List.getElem?_take]
 by_cases hq : q < T
 ·rw [if_pos hq, getElem?_overC _ _ _ (by omega), if_pos hq, getElem?_overC _ _ _ (by omega), List.append_assoc]
  by_cases h2 : q < i
  ·rw [if_pos (by omega), getElem?_overC _ _ _ (by omega), if_pos h2, List.getElem?_append_left (by omega), List.getElem?_take, if_pos h2]
  ·rw [List.getElem?_append_right (by omega), h1]
   by_cases h3 : q < i + m
   ·rw [if_pos h3, getElem?_overC _ _ _ (by omega), if_neg h2, if_pos (by omega), List.getElem?_append_left (by omega)]
   ·rw [if_neg h3, List.getElem?_append_right (by omega), List.getElem?_drop, hB, if_pos (by omega), List.getElem?_drop, getElem?_overC _ _ _ (by omega), if_neg (by omega), if_neg (by omega), hv]
    congr 1
    omega
 ·rw [if_neg hq, List.getElem?_eq_none]
  rw [List.length_append, List.length_append, h1, hv, List.length_drop]
  omega
theorem repE (l lv : List Nat) (i j m L T : Nat) (hl : l.length = L) (hv : lv.length = m) (hi : i + m ≤ L) (hiL : i < L) (hj : j = i + 1) (hT : T = L - 1 + m) :
  (overC (l.take (i + m) ++ l.drop j) i lv).take T = l.take i ++ lv ++ l.drop j := by
 have h5 : (l.take (i + m)).length = i + m := by rw [List.length_take]; omega
 have h6 : (l.take (i + m) ++ l.drop j).take i = l.take i := by rw [List.take_append_of_le_length (by omega), List.take_take, Nat.min_eq_left (by omega)]
 unfold overC
 rw [hv, List.drop_left' h5, h6]
 apply List.take_of_length_le
 rw [List.length_append, List.length_append, List.length_take, hv, List.length_drop]
 omega
set_option maxHeartbeats 1000000 in
theorem replace_u64 (ad ad2 a a2 : Option Addr) (L e i m s2 e2 : Nat) (l lv : List Nat) (hl : l.length = L) (hv : lv.length = m) (hL : L ≤ 1000000) (hm : m ≤ 1000000) (hi : i < L) (hi2 : i + 1 = L ∨ i + m ≤ L) :
  FnSpec Tryz.prog 94 [.arr ad (fun _ => L) (fun _ => e) [.nat .u64 fun _ => l] true, .arr ad2 (fun _ => m) (fun _ => s2) [.nat .u64 fun _ => lv] false] [.sl 0 (fun _ => a) (fun _ => 0) (fun _ => L) (fun _ => e), .int .i64 fun _ => toI i, .int .i64 fun _ => toI (i + 1), .sl 1 (fun _ => a2) (fun _ => 0) (fun _ => m) (fun _ => e2)]
   (fun v hp => ∃ (a' ad' : Option Addr) (e' : Nat), v = .sl 2 (fun _ => a') (fun _ => 0) (fun _ => L - 1 + m) (fun _ => e') ∧
    hp = [.gone ad 1, .arr ad2 (fun _ => m) (fun _ => s2) [.nat .u64 fun _ => lv] false, .arr ad' (fun _ => L - 1 + m) (fun _ => e') [.nat .u64 fun _ => l.take i ++ lv ++ l.drop (i + 1)] true]) := by
 obtain ⟨j, hj⟩ : ∃ j, j = i + 1 := ⟨_, rfl⟩
 obtain ⟨T, hT⟩ : ∃ T, T = L - 1 + m := ⟨_, rfl⟩
 rw [← hj, ← hT]
 refine spec_cl mixed F94 rfl rfl rfl (fun Γ hΓ hb => ?_)
 cbv
 refine VC.mk rf fun a3 => ?_
 cbv
 refine .no (eqF om) ?_
 cbv
 refine ⟨fun hc => ?_, fun hc => ?_⟩
 ·replace hc : toI j = toI L := by simpa using hc
  have hc : j = L := by exact om
  have e0 : l.drop j = [] := List.drop_of_length_le (by omega)
  rw [e0, List.append_nil]
  cbv
  refine VC.mk rf fun a4 => ?_
  cbv
  by_cases hm0 : m = 0
  ·have hlv : lv = [] := List.eq_nil_of_length_eq_zero (hv.trans hm0)
   refine .inn (VC.mk rf ?_)
   cbv
   refine .yes (decide_eq_true om) ?_
   cbv
   refine VC.mk rf fun a5 => ?_
   cbv
   refine VC.mk rf ?_
   cbv
   refine Cl.carve 0 rfl rf rf fun a9 a10 => ?_
   cbv
   refine Cl.by (v' := .sl 2 (fun _ => a10) (fun _ => 0) (fun _ => T) (fun _ => L + e - i)) [.one 0, .one 1, .one 2] 2 hb rfl rfl (nodup_of rfl)
    (hp' := [.gone ad 1, .arr ad2 (fun _ => m) (fun _ => s2) [.nat .u64 fun _ => lv] false, .arr a9 (fun _ => T) (fun _ => L + e - i) [.nat .u64 fun _ => l.take i ++ lv] true]) rfl ?_ rfl ?_ ⟨a10, a9, L + e - i, rfl, rfl⟩
   ·cbv
    (repeat' first | with_reducible rfl | exact (show Ch.base _ = _ from rfl) | ((try simp only [toI, inI, List.length_nil] at *); omega) | exact trivial | refine ⟨?_, ?_⟩ | refine ⟨?_⟩ | intro _)
    have n1 : ∀ x : List Nat, x.length = L → (overC x i []).take i = x.take i ∧ (overC x i []).length = L := fun x hx => by
     unfold overC; simp [hx]
    simp only [toI_toNat, Nat.zero_add, Nat.sub_zero, List.drop_zero, hm0, Nat.add_zero, hlv, List.append_nil, List.take_nil]
    have n2 : ∀ (x y : List Nat), x.length = L → (overC x i y).take i = x.take i := fun x y hx => by
     unfold overC
     rw [List.append_assoc, List.take_append_of_le_length (by rw [List.length_take]; omega), List.take_take, Nat.min_self]
    rw [n2 _ _ (n1 l hl).2, (n1 l hl).1]
   ·cbv
    exact rf
  ·refine .any (VC.mk rf fun a5 a6 x6 hx6 => ?_)
   cbv
   refine .no (decide_eq_false om) ?_
   cbv
   refine Cl.by (v' := .sl 2 (fun _ => a6) (fun _ => 0) (fun _ => T) (fun _ => x6)) [.one 0, .one 1, .one 2] 2 hb rfl rfl (nodup_of rfl)
    (hp' := [.gone ad 1, .arr ad2 (fun _ => m) (fun _ => s2) [.nat .u64 fun _ => lv] false, .arr a5 (fun _ => T) (fun _ => x6) [.nat .u64 fun _ => l.take i ++ lv] true]) rfl ?_ rfl ?_ ⟨a6, a5, x6, rfl, rfl⟩
   ·cbv
    (repeat' first | with_reducible rfl | exact (show Ch.base _ = _ from rfl) | ((try simp only [toI, inI, List.length_nil] at *); omega) | exact trivial | refine ⟨?_, ?_⟩ | refine ⟨?_⟩ | intro _)
    simp only [toI_toNat, Nat.zero_add, Nat.sub_zero, List.drop_zero]
    rw [List.take_of_length_le (Nat.le_of_eq hv)]
   ·cbv
    exact rf
 ·replace hc : ¬ toI j = toI L := by simpa using hc
  have hjL : j < L := by exact om
  have hi3 : i + m ≤ L := by omega
  cbv
  repeat ((first | refine VC.mk rf ?_ | refine ADD.mk rf ?_ | intro _); cbv)
  have hTe : toI ((toI i).toNat - (toI 0).toNat) + toI m + toI ((toI L).toNat - (toI j).toNat) = toI T := by exact om
  rw [hTe]
  refine ⟨fun hg => ?_, fun hg => ?_⟩
  ·replace hg : toI (L + e) < toI T := of_decide_eq_true hg
   cbv
   refine VC.mk rf fun a4 => ?_
   cbv
   refine VC.mk rf ?_
   cbv
   refine .new (VC.mk rf fun a5 x5 => ?_)
   cbv
   refine VC.mk rf fun a6 => ?_
   cbv
   refine .inn (VC.mk rf ?_)
   cbv
   refine .mk rf ?_
   cbv
   refine VC.mk rf fun a7 => ?_
   cbv
   refine VC.mk rf fun a8 => ?_
   cbv
   refine .inn (VC.mk rf ?_)
   cbv
   refine Cl.by (v' := .sl 2 (fun _ => a5) (fun _ => 0) (fun _ => T) (fun _ => x5)) [.one 0, .one 1, .one 2] 2 hb rfl rfl (nodup_of rfl)
    (hp' := [.gone ad 1, .arr ad2 (fun _ => m) (fun _ => s2) [.nat .u64 fun _ => lv] false, .arr a5 (fun _ => T) (fun _ => x5) [.nat .u64 fun _ => l.take i ++ lv ++ l.drop j] true]) rfl ?_ rfl ?_ ⟨a5, a5, x5, rfl, rfl⟩
   ·cbv
    (repeat' first | with_reducible rfl | exact (show Ch.base _ = _ from rfl) | ((try simp only [toI, inI, List.length_nil] at *); omega) | exact trivial | refine ⟨?_, ?_⟩ | refine ⟨?_⟩ | intro _)
    have n1 : (toI T - toI i).toNat = T - i := by exact om
    have n2 : (toI i + toI m).toNat = i + m := by exact om
    simp only [toI_toNat, n1, n2, Nat.zero_add, Nat.sub_zero, List.drop_zero]
    rw [show min m (i + (T - i) - i) = m by omega, show min (L - j) (i + (T - i) - (i + m)) = L - j by omega, List.take_of_length_le (Nat.le_of_eq hv), List.take_of_length_le (show (l.drop j).length ≤ L - j by rw [List.length_drop]; omega)]
    have h1 : (l.take i).length = i := by rw [List.length_take]; omega
    have := ins0 (l.take i) lv (l.drop j) (T - i) (by rw [List.length_drop]; omega)
    rw [h1, hv] at this
    exact this
   ·cbv
    exact rf
  ·replace hg : ¬ toI (L + e) < toI T := of_decide_eq_false hg
   cbv
   refine VC.mk rf fun a4 => ?_
   cbv
   refine .mk rf ?_
   cbv
   refine ⟨fun hm2 => ?_, fun hm2 => ?_⟩
   ·replace hm2 := of_decide_eq_true hm2
    cbv
    have hm2 : m ≤ 1 := by exact om
    refine VC.mk rf fun a5 => ?_
    cbv
    refine .inn (VC.mk rf ?_)
    cbv
    repeat ((first | refine VC.mk rf ?_ | refine ADD.mk rf ?_ | intro _); cbv)
    refine .inn (VC.mk rf ?_)
    cbv
    repeat ((first | refine VC.mk rf ?_ | refine ADD.mk rf ?_ | intro _); cbv)
    refine Cl.carve 0 rfl rf rf fun a9 a10 => ?_
    cbv
    refine Cl.by (v' := .sl 2 (fun _ => a10) (fun _ => 0) (fun _ => T) (fun _ => L + e - T)) [.one 0, .one 1, .one 2] 2 hb rfl rfl (nodup_of rfl)
     (hp' := [.gone ad 1, .arr ad2 (fun _ => m) (fun _ => s2) [.nat .u64 fun _ => lv] false, .arr a9 (fun _ => T) (fun _ => L + e - T) [.nat .u64 fun _ => l.take i ++ lv ++ l.drop j] true]) rfl ?_ rfl ?_ ⟨a10, a9, L + e - T, rfl, rfl⟩
    ·cbv
     (repeat' first | with_reducible rfl | exact (show Ch.base _ = _ from rfl) | ((try simp only [toI, inI, List.length_nil] at *); omega) | exact trivial | refine ⟨?_, ?_⟩ | refine ⟨?_⟩ | intro _)
     have n2 : (toI i + toI m).toNat = i + m := by exact om
     have hA : (overC l i lv).length = L := by rw [length_overC _ _ _ (by omega), hl]
     simp only [toI_toNat, n2, Nat.zero_add, Nat.sub_zero, List.drop_zero]
     rw [show min m (T - i) = m by omega, show min (L - j) (T - (i + m)) = L - j by omega, List.take_of_length_le (Nat.le_of_eq hv), List.take_of_length_le (show ((overC l i lv).drop j).length ≤ L - j by rw [List.length_drop]; omega), hj]
     exact repD l lv _ i m L T hl hv hm2 (by omega) hT (by rw [List.length_replicate])
    ·cbv
     exact rf
   ·replace hm2 := of_decide_eq_false hm2
    cbv
    have hm2 : 2 ≤ m := by exact om
    repeat ((first | refine VC.mk rf ?_ | refine ADD.mk rf ?_ | intro _); cbv)
    refine overlaps_call (fn := _) (tS := _) (tR := _) (e := _) (size := _) (by rw [hΓ]; rfl) rfl rfl rfl rfl (by rw [hΓ]; rfl) (by rw [hΓ]; intro w; rfl) rfl rfl rfl rfl rfl rfl (.inr ⟨rfl, rf⟩) rf ?_
    cbv
    repeat ((first | refine VC.mk rf ?_ | refine ADD.mk rf ?_ | intro _); cbv)
    refine .ext (VC.mk rf ?_)
    cbv
    repeat ((first | refine VC.mk rf ?_ | refine ADD.mk rf ?_ | intro _); cbv)
    refine .inn (VC.mk rf ?_)
    cbv
    refine Cl.carve 0 rfl rf rf fun a9 a10 => ?_
    cbv
    refine Cl.by (v' := .sl 2 (fun _ => a10) (fun _ => 0) (fun _ => T) (fun _ => L + e - T)) [.one 0, .one 1, .one 2] 2 hb rfl rfl (nodup_of rfl)
     (hp' := [.gone ad 1, .arr ad2 (fun _ => m) (fun _ => s2) [.nat .u64 fun _ => lv] false, .arr a9 (fun _ => T) (fun _ => L + e - T) [.nat .u64 fun _ => l.take i ++ lv ++ l.drop j] true]) rfl ?_ rfl ?_ ⟨a10, a9, L + e - T, rfl, rfl⟩
    ·cbv
     (repeat' first | with_reducible rfl | exact (show Ch.base _ = _ from rfl) | ((try simp only [toI, inI, List.length_nil] at *); omega) | exact trivial | refine ⟨?_, ?_⟩ | refine ⟨?_⟩ | intro _)
     have n2 : (toI i + toI m).toNat = i + m := by exact om
     simp only [toI_toNat, n2, Nat.zero_add, Nat.sub_zero, List.drop_zero]
     rw [show min m (T - i) = m by omega, show min (L - j) (T - (i + m)) = L - j by omega, List.take_of_length_le (Nat.le_of_eq hv), List.take_of_length_le (show (l.drop j).length ≤ L - j by rw [List.length_drop]; omega)]
     exact repE l lv i j m L T hl hv hi3 hi hj hT
    ·cbv
     exact rf
end Go.Proofs.YtfoffehokhkohaaGreat
