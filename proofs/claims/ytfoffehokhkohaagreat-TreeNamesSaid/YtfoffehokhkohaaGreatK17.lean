/- Part 17 of what is proved in the last text (packed by a program of mine). -/
import Derived.Test.YtfoffehokhkohaaGreatK11
import Derived.Test.YtfoffehokhkohaaGreatK12
import Derived.Test.YtfoffehokhkohaaGreatK13
import Derived.Test.YtfoffehokhkohaaGreatK16
set_option linter.all false
set_option maxRecDepth 20000
namespace Go.Proofs.YtfoffehokhkohaaGreat
open Go
abbrev Bytes := List UInt8
structure DevQ where
 ty : Nat
 a1 : Option Addr
 ad1 : Option Addr
 e1 : Nat
 a2 : Option Addr
 ad2 : Option Addr
 e2 : Nat
 ops : Int
def devL (b size blocks : Nat) (dur : List Bytes) (pend : List (Nat × Bytes)) (q : DevQ) : List Ch :=
 [.box b q.ty [.int .i64 fun _ => toI size, .int .i64 fun _ => toI blocks, .sl 1 (fun _ => q.a1) (fun _ => 0) (fun _ => dur.length) (fun _ => q.e1), .sl 2 (fun _ => q.a2) (fun _ => 0) (fun _ => pend.length) (fun _ => q.e2), .int .i64 fun _ => q.ops, .int .i64 fun _ => -1] true,
  .arr q.ad1 (fun _ => dur.length) (fun _ => q.e1) [.str fun _ => dur] true, .arr q.ad2 (fun _ => pend.length) (fun _ => q.e2) [.int .i64 fun _ => pend.map fun p => toI p.1, .str fun _ => pend.map (·.2)] true]
def DevR (b size blocks : Nat) (dur : List Bytes) (pend : List (Nat × Bytes)) : RP := Pack (devL b size blocks dur pend)
def devO (b size blocks : Nat) (dur : List Bytes) (pend : List (Nat × Bytes)) (q : DevQ) : List Ch :=
 [.gone none 1, .box b q.ty [.int .i64 fun _ => toI size, .int .i64 fun _ => toI blocks, .sl 2 (fun _ => q.a1) (fun _ => 0) (fun _ => dur.length) (fun _ => q.e1), .sl 3 (fun _ => q.a2) (fun _ => 0) (fun _ => pend.length) (fun _ => q.e2), .int .i64 fun _ => q.ops, .int .i64 fun _ => -1] true,
  .arr q.ad1 (fun _ => dur.length) (fun _ => q.e1) [.str fun _ => dur] true, .arr q.ad2 (fun _ => pend.length) (fun _ => q.e2) [.int .i64 fun _ => pend.map fun p => toI p.1, .str fun _ => pend.map (·.2)] true]
def devCur (dur : List Bytes) (pend : List (Nat × Bytes)) (n : Nat) : Bytes := match pend.reverse.find? (fun p => p.1 == n) with
 | some p => p.2
 | none => dur.getD n []
theorem dev_there (b size blocks n : Nat) (dur : List Bytes) (pend : List (Nat × Bytes)) (q : DevQ) (hn : n < blocks) :
  FnSpec Tryz.prog 137 (devL b size blocks dur pend q) [.bp 0 0, .int .i64 fun _ => toI n] (fun v hp => v = .tt ∧ hp = devL b size blocks dur pend q) := by
 refine spec_cl mixed F137 rfl rfl rfl (fun Γ hΓ hb => ?_)
 cbv
 refine .yes (decide_eq_true om) ?_
 cbv
 exact Cl.take 3 .tt hb rfl rfl ⟨decide_eq_true om⟩ rfl ⟨rfl, rfl⟩
theorem dev_done (b size blocks : Nat) (dur : List Bytes) (pend : List (Nat × Bytes)) (q : DevQ) :
  FnSpec Tryz.prog 138 (devL b size blocks dur pend q) [.bp 0 0] (fun v hp => ∃ ops', v = .tt ∧ hp = devL b size blocks dur pend { q with ops := ops' }) := by
 refine spec_cl mixed F138 rfl rfl rfl (fun Γ hΓ hb => ?_)
 cbv
 refine .no (eqF (by omega)) ?_
 cbv
 refine ⟨rf, ?_⟩
 cbv
 refine .wrap ?_
 cbv
 obtain ⟨o', ho⟩ : ∃ o', IntKind.i64.wrap (q.ops + 1) = o' := ⟨_, rfl⟩
 refine Cl.by (v' := .tt) (hp' := devL b size blocks dur pend { q with ops := o' }) [.one 0, .one 1, .one 2] 3 hb rfl rfl (nodup_of rfl) rfl ?_ rfl ?_ ⟨_, rfl, rfl⟩
 ·cbv
  exact ⟨⟨⟨rfl, rfl⟩, ⟨rfl⟩, ⟨rfl⟩, ⟨rfl, rfl, rfl, fun _ => rfl⟩, ⟨rfl, rfl, rfl, fun _ => rfl⟩, ⟨ho⟩, ⟨rfl⟩, trivial⟩, ⟨⟨rfl, rfl, rfl⟩, ⟨rfl⟩, trivial⟩, ⟨⟨rfl, rfl, rfl⟩, ⟨rfl⟩, ⟨rfl⟩, trivial⟩, trivial⟩
 ·cbv
theorem dev_fin {Γ : Ctx} (hb : Γ.b0.length = 1) {R : KV} {v v' : SV} {hp : List Ch} {b size blocks : Nat} {dur : List Bytes} {pend : List (Nat × Bytes)} (q : DevQ) (ht : hp.take 4 = devO b size blocks dur pend q) (hl : Nat.ble 4 hp.length = true)
  (hvh : v.hs 4 = true) (hv : eqV v (v'.ren [0])) (hs : v'.hs 1 = true) (h : R v' [.res fun _ => DevR b size blocks dur pend]) : Cl Γ R v hp := by
 have h2 : Cl Γ R v (devO b size blocks dur pend q) := by
  refine Cl.by (v' := v') (hp' := [.res fun _ => DevR b size blocks dur pend]) [.pack 0 [1, 2, 3]] 1 hb rfl rfl (nodup_of rfl) rfl ⟨⟨_, _, q, rfl, rfl, rfl, rfl, ?_, rfl⟩, trivial⟩ hs hv h
  cbv
  exact rf
 obtain ⟨v2, hp2, g1, g2, g3⟩ := h2.h
 refine ⟨⟨v2, hp2, fun w hd => ?_, g2, g3⟩⟩
 have hc : hsCL 4 (hp.take 4) = true := by rw [ht]; rfl
 have hd4 := hd.takeC 4 (by omega) hc
 rw [ht] at hd4
 obtain ⟨k1, k2⟩ := g1 w hd4
 refine ⟨k1, ?_⟩
 rw [← k2]
 have hb2 : bases hp = bases (hp.take 4) ++ bases (hp.drop 4) := by rw [← bases_append, List.take_append_drop]
 have hl := Nat.le_of_ble_eq_true hl
 rw [hb2, den_ext _ _ v (by simpa [Nat.min_eq_left hl] using hvh), ht]
theorem dev_Write (b size blocks n : Nat) (dur : List Bytes) (pend : List (Nat × Bytes)) (s : Bytes) (hn : n < blocks) (hb4 : blocks ≤ 4096) (hs : s.length = size) (hp : pend.length < 1000000000) :
  FnSpec Tryz.prog 89 [.res fun _ => DevR b size blocks dur pend] [.pt fun _ => ⟨b, 0, none⟩, .int .i64 fun _ => toI n, .str fun _ => s]
   (fun v hp => v = .int .i64 (fun _ => 0) ∧ hp = [.res fun _ => DevR b size blocks dur (pend ++ [(n, s)])]) := by
 refine spec_by mixed F89 rfl rfl rfl (devO b size blocks dur pend) (fun _ => [.bp 1 0, .int .i64 fun _ => toI n, .str fun _ => s]) (fun q => rfl) (fun q => rfl) (fun Γ w h => open_pack (k := 0) h rfl) ?_
 intro q Γ hΓ hb
 obtain ⟨ty, a1, ad1, e1, a2, ad2, e2, ops⟩ := q
 cbv
 refine callP_by hΓ (dev_there b size blocks n dur pend ⟨ty, a1, ad1, e1, a2, ad2, e2, ops⟩ hn) [1, 2, 3] (by simp) ⟨⟨_, rfl, .inl rfl⟩, ⟨_, rfl, .inl rfl⟩, ⟨_, rfl, .inl rfl⟩, trivial⟩ rfl ?_
 rintro x hp' ⟨rfl, rfl⟩
 refine ⟨rfl, ?_⟩
 cbv
 refine .no (neF om) ?_
 cbv
 refine callP_by hΓ (dev_done b size blocks dur pend ⟨ty, a1, ad1, e1, a2, ad2, e2, ops⟩) [1, 2, 3] (by simp) ⟨⟨_, rfl, .inl rfl⟩, ⟨_, rfl, .inl rfl⟩, ⟨_, rfl, .inl rfl⟩, trivial⟩ rfl ?_
 rintro x hp' ⟨ops', rfl, rfl⟩
 refine ⟨rfl, ?_⟩
 cbv
 refine ⟨rf, fun b1 => ?_⟩
 cbv
 refine .any ⟨rf, fun a3 a4 e3 _ => ?_⟩
 generalize hpe : pend ++ [(n, s)] = pend'
 have hpl : pend'.length = pend.length + 1 := by rw [← hpe]; simp
 cbv
 refine Cl.by (v' := .int .i64 fun _ => 0) (hp' := [.res fun _ => DevR b size blocks dur pend']) [.pack 0 [1, 2, 5]] 1 hb rfl rfl (nodup_of rfl) rfl
  ⟨⟨_, _, ⟨ty, a1, ad1, e1, a4, a3, e3, ops'⟩, rfl, rfl, rfl, rfl, ?_, rfl⟩, trivial⟩ rfl ?_ ⟨rfl, rfl⟩
 ·cbv
  (repeat' first | with_reducible rfl | exact (show Ch.base _ = _ from rfl) | ((try simp only [toI, inI, List.length_nil] at *); omega) | exact trivial | refine ⟨?_, ?_⟩ | refine ⟨?_⟩ | intro _)
  ·rw [← hpe, List.drop_zero, List.take_of_length_le (by simp)]; simp
  ·rw [← hpe, List.drop_zero, List.take_of_length_le (by simp)]; simp
 ·cbv
  exact rf
def bwdW (pend : List (Nat × Bytes)) (k : Nat) : List SV := [.int .i64 fun _ => toI pend.length - 1 - toI k, .agg [.int .i64 fun _ => (pend.map fun p => toI p.1).getD (0 + (toI pend.length - 1 - toI k).toNat) 0, .str fun _ => (pend.map (·.2)).getD (0 + (toI pend.length - 1 - toI k).toNat) []]]
theorem backward_w (ad a : Option Addr) (sp ext b ty : Nat) (pend : List (Nat × Bytes)) (hp : pend.length < 1000000000) :
  ISpec Tryz.prog 196 [.box b ty [.sl 1 (fun _ => a) (fun _ => 0) (fun _ => pend.length) (fun _ => ext)] true, .arr ad (fun _ => pend.length) (fun _ => sp) [.int .i64 fun _ => pend.map fun p => toI p.1, .str fun _ => pend.map (·.2)] true] [] [.bp 0 0] ((List.range pend.length).map (bwdW pend)) := by
 refine ⟨let ⟨fn, c, h1, h2, h3, _⟩ := F196.h; ⟨fn, c, h1, h2, h3⟩, rfl, ?_, rfl, rfl, fun lo Y Z hY => ?_⟩
 ·intro xs hx
  obtain ⟨k, _, rfl⟩ := List.mem_map.1 hx
  rfl
 refine spec_cl mixed F196 rfl rfl rfl (fun Γ hΓ hb => ?_)
 cbv
 refine ⟨rf, ?_⟩
 cbv
 refine loopJ (fun (k : Nat) => k ≤ pend.length) (fun k => ⟨19, [(0, .fn (.yield lo) [] []), (1, .bp 0 0), (3, .int .i64 fun _ => toI pend.length - 1 - toI k)], [.box b ty [.sl 1 (fun _ => a) (fun _ => 0) (fun _ => pend.length) (fun _ => ext)] true, .arr ad (fun _ => pend.length) (fun _ => sp) [.int .i64 fun _ => pend.map fun p => toI p.1, .str fun _ => pend.map (·.2)] true, .res fun _ => Y k], []⟩) (fun k => pend.length - k) 0 (by omega) (sub2 [0, 1, 2] 3 hb rfl rfl rfl rfl rfl rfl rfl rfl ?_) ?_
 ·cbv
  exact rf
 ·intro k hk
  cbv
  refine ⟨fun hc => ?_, fun hc => ?_⟩
  ·replace hc := of_decide_eq_true hc
   have hkl : k < pend.length := by exact om
   cbv
   refine ⟨rf, ?_⟩
   cbv
   refine ⟨rf, ?_⟩
   cbv
   refine callV_by hΓ (hY k (bwdW pend k) (by simp [hkl])) [0, 1, 2] (by simp) ⟨⟨_, rfl, .inl rfl⟩, ⟨_, rfl, .inl rfl⟩, ⟨_, rfl, .inl rfl⟩, trivial⟩ rfl ?_
   rintro x hp' (⟨rfl, rfl⟩ | ⟨rfl, rfl⟩)
   ·refine ⟨rfl, ?_⟩
    cbv
    refine ⟨rf, ?_⟩
    cbv
    refine ⟨k + 1, by exact om, by exact om, sub2 [0, 1, 2] 3 hb rfl rfl rfl rfl rfl rfl rfl rfl ?_⟩
    cbv
    exact rf
   ·refine ⟨rfl, ?_⟩
    cbv
    exact Cl.same rfl (.inr rfl)
  ·replace hc := of_decide_eq_false hc
   have : k = pend.length := by exact om
   subst this
   cbv
   exact Cl.same rfl (.inl (by simp [appL]))
theorem backward_w0 (ad a : Option Addr) (sp ext : Nat) (pend : List (Nat × Bytes)) :
  FnSpec Tryz.prog 182 [.arr ad (fun _ => pend.length) (fun _ => sp) [.int .i64 fun _ => pend.map fun p => toI p.1, .str fun _ => pend.map (·.2)] false] [.sl 0 (fun _ => a) (fun _ => 0) (fun _ => pend.length) (fun _ => ext)]
   (fun v hp => ∃ b, v = .fn (.func 196) [] [.bp 1 0] ∧ hp = [.arr ad (fun _ => pend.length) (fun _ => sp) [.int .i64 fun _ => pend.map fun p => toI p.1, .str fun _ => pend.map (·.2)] false, .box b 138 [.sl 0 (fun _ => a) (fun _ => 0) (fun _ => pend.length) (fun _ => ext)] true]) := by
 refine spec_of mixed F182 rfl rfl rfl (fun Γ hΓ hb => ?_)
 cbv
 intro b
 cbv
 exact ⟨b, rfl, rfl⟩
theorem dev_latest (b size blocks : Nat) (dur : List Bytes) (pend : List (Nat × Bytes)) (q : DevQ) :
  FnSpec Tryz.prog 156 (devL b size blocks dur pend q) [.bp 0 0] (fun v hp => ∃ b', v = .fn (.func 196) [] [.bp 3 0] ∧ hp = appL (devL b size blocks dur pend q) [.box b' 138 [.sl 2 (fun _ => q.a2) (fun _ => 0) (fun _ => pend.length) (fun _ => q.e2)] true]) := by
 refine spec_of mixed F156 rfl rfl rfl (fun Γ hΓ hb => ?_)
 cbv
 refine callP_by hΓ (backward_w0 q.ad2 q.a2 q.e2 q.e2 pend) [2] (by simp) ⟨⟨_, rfl, .inr ⟨rfl, rfl⟩⟩, trivial⟩ rfl ?_
 rintro x hp' ⟨b', rfl, rfl⟩
 refine ⟨rfl, ?_⟩
 cbv
 exact ⟨b', rfl, rfl⟩
theorem dev_Read (b size blocks n : Nat) (dur : List Bytes) (pend : List (Nat × Bytes)) (hn : n < blocks) (hb4 : blocks ≤ 4096) (hd : dur.length = blocks) (hp : pend.length < 1000000000) :
  FnSpec Tryz.prog 110 [.res fun _ => DevR b size blocks dur pend] [.pt fun _ => ⟨b, 0, none⟩, .int .i64 fun _ => toI n]
   (fun v hp => v = .tup [.str fun _ => devCur dur pend n, .int .i64 fun _ => 0] ∧ hp = [.res fun _ => DevR b size blocks dur pend]) := by
 refine spec_by mixed F110 rfl rfl rfl (devO b size blocks dur pend) (fun _ => [.bp 1 0, .int .i64 fun _ => toI n]) (fun q => rfl) (fun q => rfl) (fun Γ w h => open_pack (k := 0) h rfl) ?_
 intro q Γ hΓ hb
 obtain ⟨ty, a1, ad1, e1, a2, ad2, e2, ops⟩ := q
 cbv
 intro b3
 cbv
 intro b4
 cbv
 intro b5
 cbv
 refine callP_by hΓ (dev_there b size blocks n dur pend ⟨ty, a1, ad1, e1, a2, ad2, e2, ops⟩ hn) [1, 2, 3] (by simp) ⟨⟨_, rfl, .inl rfl⟩, ⟨_, rfl, .inl rfl⟩, ⟨_, rfl, .inl rfl⟩, trivial⟩ rfl ?_
 rintro x hp' ⟨rfl, rfl⟩
 refine ⟨rfl, ?_⟩
 cbv
 refine callP_by hΓ (dev_latest b size blocks dur pend ⟨ty, a1, ad1, e1, a2, ad2, e2, ops⟩) [1, 2, 3] (by simp) ⟨⟨_, rfl, .inl rfl⟩, ⟨_, rfl, .inl rfl⟩, ⟨_, rfl, .inl rfl⟩, trivial⟩ rfl ?_
 rintro x hp' ⟨b', rfl, rfl⟩
 refine ⟨rfl, ?_⟩
 cbv
 have hlook : ∀ k, k < pend.length → 0 + (toI pend.length - 1 - toI k).toNat = pend.length - 1 - k := by intro k hk; exact om
 refine ⟨_, fun _ _ h => h, ?_⟩
 cbv
 refine RangeP0.to ?_
 refine ⟨[7, 3, 9, 4, 5, 6], [.box b' 138 [.sl 1 (fun _ => a2) (fun _ => 0) (fun _ => pend.length) (fun _ => e2)] true, .arr ad2 (fun _ => pend.length) (fun _ => e2) [.int .i64 fun _ => pend.map fun p => toI p.1, .str fun _ => pend.map (·.2)] true],
  [.box b3 3 [.int .i64 fun _ => toI n] true, .box b4 9 [.str fun _ => []] true, .box b5 31 [.int .i64 fun _ => 0] true], [(3, .bp 3 0), (4, .bp 4 0), (5, .bp 5 0)], [], [.bp 0 0],
  by simp, rfl, rfl, ⟨rfl, rfl, rfl, trivial⟩, rfl, by simp, fun rd rr => ⟨⟨_, rfl, .inl rfl⟩, ⟨_, rfl, .inl rfl⟩, ⟨_, rfl, .inl rfl⟩, ⟨_, rfl, .inl rfl⟩, ⟨_, rfl, .inl rfl⟩, ⟨_, rfl, .inl rfl⟩, trivial⟩, ?_⟩
 refine ⟨Unit, { s : Bytes // s = devCur dur pend n }, fun k _ => ∀ p ∈ pend.reverse.take k, p.1 ≠ n, fun _ => [.box b3 3 [.int .i64 fun _ => toI n] true, .box b4 9 [.str fun _ => []] true, .box b5 31 [.int .i64 fun _ => 0] true],
  fun q => [.box b3 3 [.int .i64 fun _ => toI n] true, .box b4 9 [.str fun _ => q.1] true, .box b5 31 [.int .i64 fun _ => 0] true], fun _ => none, _, (),
  hΓ ▸ backward_w ad2 a2 e2 e2 b' 138 pend hp, ?_, ?_, rfl, fun q => ⟨rfl, rfl, [], rfl⟩, fun q => ⟨rfl, rfl, [], rfl⟩, ?_, ?_, ?_⟩
 ·intro xs hx
  obtain ⟨k, _, rfl⟩ := List.mem_map.1 hx
  rfl
 ·simp
 ·rintro k q xs Γ' r1 r2 hk hq hΓ' hb'
  have hkl : k < pend.length := by
   have := (List.getElem?_eq_some_iff.1 hk).1
   simpa using this
  have hxs : xs = bwdW pend k := by
   simp [hkl] at hk
   exact hk.symm
  subst hxs
  have hrev : pend.reverse.take (k + 1) = pend.reverse.take k ++ [pend[pend.length - 1 - k]'(by omega)] := by
   rw [List.take_add_one, List.getElem?_eq_getElem (by simpa using hkl), List.getElem_reverse]
   rfl
  have h1 : (pend.map fun p => toI p.1).getD (0 + (toI pend.length - 1 - toI k).toNat) 0 = toI (pend[pend.length - 1 - k]'(by omega)).1 := by
   rw [hlook k hkl, List.getD_eq_getElem?_getD, List.getElem?_map, List.getElem?_eq_getElem (by omega)]
   rfl
  have h2 : (pend.map (·.2)).getD (0 + (toI pend.length - 1 - toI k).toNat) [] = (pend[pend.length - 1 - k]'(by omega)).2 := by
   rw [hlook k hkl, List.getD_eq_getElem?_getD, List.getElem?_map, List.getElem?_eq_getElem (by omega)]
   rfl
  cbv
  intro b6
  cbv
  refine ⟨⟨rfl⟩, fun hc => ?_, fun hc => ?_⟩
  ·have hc : (pend.map fun p => toI p.1).getD (0 + (toI pend.length - 1 - toI k).toNat) 0 = toI n := by simpa using hc
   rw [h1] at hc
   have hc : (pend[pend.length - 1 - k]'(by omega)).1 = n := by simp only [toI] at hc; omega
   have hcur : (pend.map (·.2)).getD (0 + (toI pend.length - 1 - toI k).toNat) [] = devCur dur pend n := by
    rw [h2]
    have : pend.reverse.find? (fun p => p.1 == n) = some (pend[pend.length - 1 - k]'(by omega)) := by
     have e : pend.reverse = pend.reverse.take (k + 1) ++ pend.reverse.drop (k + 1) := (List.take_append_drop _ _).symm
     rw [e, hrev, List.append_assoc, List.find?_append, List.find?_eq_none.2 (by simpa using hq)]
     simp [hc]
    unfold devCur
    rw [this]
   cbv
   refine RoundTo.by [.box b3 3 [.int .i64 fun _ => toI n] true, .box b4 9 [.str fun _ => (pend.map (·.2)).getD (0 + (toI pend.length - 1 - toI k).toNat) []] true, .box b5 31 [.int .i64 fun _ => 0] true] [.one 0, .one 1, .one 2, .one 3, .one 4, .one 5] 3 hb' rfl rfl (nodup_of rfl) rfl ?_ ⟨⟨_, hcur⟩, rfl, rfl⟩
   cbv
   exact rf
  ·have hc : ¬ (pend.map fun p => toI p.1).getD (0 + (toI pend.length - 1 - toI k).toNat) 0 = toI n := by simpa using hc
   rw [h1] at hc
   have hc : (pend[pend.length - 1 - k]'(by omega)).1 ≠ n := by simp only [toI] at hc; omega
   cbv
   refine RoundTo.by [.box b3 3 [.int .i64 fun _ => toI n] true, .box b4 9 [.str fun _ => []] true, .box b5 31 [.int .i64 fun _ => 0] true] [.one 0, .one 1, .one 2, .one 3, .one 4, .one 5] 3 hb' rfl rfl (nodup_of rfl) rfl ?_ ⟨(), ?_, rfl⟩
   ·cbv
    exact rf
   ·show ∀ p ∈ pend.reverse.take (k + 1), p.1 ≠ n
    rw [hrev]
    intro p hp
    rcases List.mem_append.1 hp with hp | hp
    ·exact hq p hp
    ·simp at hp; subst hp; exact hc
 ·intro q hq d rr r'
  have hq : ∀ p ∈ pend.reverse.take ((List.range pend.length).map (bwdW pend)).length, p.1 ≠ n := hq
  have hcur : devCur dur pend n = dur.getD n [] := by
   unfold devCur
   rw [List.find?_eq_none.2]
   intro p hp
   have := hq p (by rw [List.length_map, List.length_range, List.take_of_length_le (by simp)]; exact hp)
   simpa using this
  refine ⟨rfl, ?_⟩
  cbv
  refine ⟨rf, ?_⟩
  cbv
  refine ⟨rf, ?_⟩
  cbv
  refine ⟨rfl, ?_⟩
  cbv
  refine dev_fin hb ⟨ty, a1, ad1, e1, a2, ad2, e2, ops⟩ rfl rfl rfl (v' := .tup [.str fun _ => devCur dur pend n, .int .i64 fun _ => 0]) ?_ rfl ⟨rfl, rfl⟩
  cbv
  refine ⟨⟨?_⟩, ⟨rfl⟩, trivial⟩
  rw [hcur]
  show dur.getD (0 + (toI n).toNat) [] = _
  rw [toI_toNat, Nat.zero_add]
 ·rintro ⟨s, hs⟩ d rr r'
  refine ⟨rfl, ?_⟩
  cbv
  refine ⟨rfl, ?_⟩
  cbv
  refine dev_fin hb ⟨ty, a1, ad1, e1, a2, ad2, e2, ops⟩ rfl rfl rfl (v' := .tup [.str fun _ => devCur dur pend n, .int .i64 fun _ => 0]) ?_ rfl ⟨rfl, rfl⟩
  cbv
  exact ⟨⟨hs⟩, ⟨rfl⟩, trivial⟩
theorem spec_lib {P : Program} {f n : Nat} {sc : SC} {rs : List RS} (F : Fun P f n sc rs) {args : List SV} {R : KV} (ha : SV.hsL 0 args = true)
  (h : ∀ w, Calls P f (SV.denL [] args).toArray w (fun e w' => ∃ v : SV, e = .returned (v.den []) ∧ v.hs 0 = true ∧ RowKit.Below w.heap.size w w' ∧ R v [])) : FnSpec P f [] args R := by
 refine ⟨rfl, ha, fun w D hd => ?_⟩
 obtain ⟨fn, c, h1, h2, h3, _⟩ := F.h
 have hcall : (callFunc f (SV.denL (bases []) args).toArray).run P w = .ok (.enter f (SV.denL (bases []) args).toArray) w := by
  have h3' : ¬ fn.name = "runtime.NumGoroutine" := by simpa using h3
  simp [callFunc, h1, h2, h3']
 unfold FCalls
 rw [hcall]
 refine (h w).mono ?_
 rintro e w' ⟨v, rfl, hv, hB, hR⟩
 refine ⟨v, [], rfl, hv, ⟨fun _ _ => False, ⟨hB.os, hB.output, hB.tape, hB.size, fun b hb _ => hB.block b hb⟩, by simp, by simp, by simp, by simp, by simp, ⟨[], rfl⟩⟩, ⟨[], rfl⟩, hR⟩
theorem bits_Mul (x y : Nat) (hx : x < 18446744073709551616) (hy : y < 18446744073709551616) :
  FnSpec Tryz.prog 133 [] [.int .u64 fun _ => toI x, .int .u64 fun _ => toI y] (fun v hp => v = .tup [.int .u64 fun _ => toI (x * y / 18446744073709551616), .int .u64 fun _ => toI (x * y % 18446744073709551616)] ∧ hp = []) :=
 spec_lib F133 rfl fun w => (Tryz.bits_Mul x y hx hy w).mono fun e w' ⟨h1, h2⟩ => ⟨.tup [.int .u64 fun _ => toI (x * y / 18446744073709551616), .int .u64 fun _ => toI (x * y % 18446744073709551616)], h1, rfl, h2 ▸ RowKit.Below.refl _ _, rfl, rfl⟩
theorem repeat0 (n : Nat) : Lib.repeatL [0] n = List.replicate n 0 := by
 induction n with
 | zero => rfl
 | succ n ih => simp [Lib.repeatL, List.replicate_succ, ih]
theorem strings_Repeat0 (n : Nat) (hn : n ≤ 4096) : FnSpec Tryz.prog 83 [] [.str fun _ => [0], .int .i64 fun _ => toI n] (fun v hp => v = .str (fun _ => List.replicate n 0) ∧ hp = []) := by
 refine spec_lib F83 rfl fun w => ?_
 refine (Tryz.strings_Repeat ⟨#[0]⟩ n w (by omega) (by show 1 * n ≤ _; omega)).mono fun e w' ⟨h1, h2⟩ => ⟨.str fun _ => List.replicate n 0, ?_, rfl, h2, rfl, rfl⟩
 rw [h1]
 simp only [SV.den]
 rw [← repeat0]
theorem rep_copy {α : Type} (s z : α) (i n k : Nat) (h1 : k ≤ i) (h2 : k ≤ n - i) :
  overC (List.replicate i s ++ List.replicate (n - i) z) i (List.take k (List.drop 0 (List.replicate i s ++ List.replicate (n - i) z))) = List.replicate (i + k) s ++ List.replicate (n - (i + k)) z := by
 have e1 : List.take k (List.drop 0 (List.replicate i s ++ List.replicate (n - i) z)) = List.replicate k s := by
  rw [List.drop_zero, List.take_append_of_le_length (by simpa using h1), List.take_replicate, Nat.min_eq_left h1]
 rw [e1]
 unfold overC
 have e2 : List.take i (List.replicate i s ++ List.replicate (n - i) z) = List.replicate i s := by
  rw [List.take_append_of_le_length (by simp), List.take_replicate, Nat.min_self]
 have e3 : List.drop (i + (List.replicate k s).length) (List.replicate i s ++ List.replicate (n - i) z) = List.replicate (n - (i + k)) z := by
  rw [List.drop_append, List.drop_eq_nil_iff.2 (by simp), List.nil_append, List.drop_replicate]
  congr 1
  simp; omega
 rw [e2, e3, List.replicate_append_replicate]
theorem slices_Repeat1 (s : Bytes) (a ad : Option Addr) (sp n : Nat) (h1 : 1 ≤ n) (hn : n ≤ 4096) :
  FnSpec Tryz.prog 82 [.arr ad (fun _ => 1) (fun _ => sp) [.str fun _ => [s]] false] [.sl 0 (fun _ => a) (fun _ => 0) (fun _ => 1) (fun _ => sp), .int .i64 fun _ => toI n]
   (fun v hp => ∃ (b : Nat), v = .sl 1 (fun _ => some ⟨b, 0, none⟩) (fun _ => 0) (fun _ => n) (fun _ => 0) ∧ hp = [.arr ad (fun _ => 1) (fun _ => sp) [.str fun _ => [s]] false, .arr (some ⟨b, 0, none⟩) (fun _ => n) (fun _ => 0) [.str fun _ => List.replicate n s] true]) := by
 refine spec_cl mixed F82 rfl rfl rfl (fun Γ hΓ hb => ?_)
 cbv
 refine .no (decide_eq_false om) ?_
 cbv
 have ew : wr .u64 (toI 1) = toI 1 := rfl
 have ew2 : wr .u64 (toI n) = toI n := wr_u64 om om
 refine callP_eq (args' := [.int .u64 fun _ => toI 1, .int .u64 fun _ => toI n]) (hp' := [.arr ad (fun _ => 1) (fun _ => sp) [.str fun _ => [s]] false]) [.one 0] 1 hb rfl rfl (nodup_of rfl) rfl rfl rfl ?_ ?_
 ·cbv
  exact rf
 refine callP_by hΓ (bits_Mul 1 n (by omega) (by omega)) [] (by simp) trivial rfl ?_
 rintro x hp' ⟨rfl, rfl⟩
 refine ⟨rfl, ?_⟩
 cbv
 have hdv : 1 * n / 18446744073709551616 = 0 := by omega
 have hmd : 1 * n % 18446744073709551616 = n := by omega
 have hwi : wr .i64 (toI (1 * n % 18446744073709551616)) = toI n := by rw [hmd]; exact wr_i64 om
 refine .no (decide_eq_false (by rw [hdv]; exact om)) ?_
 cbv
 refine .no (decide_eq_false (by rw [hmd]; exact om)) ?_
 cbv
 refine ⟨by rw [hwi]; exact om, fun b => ?_⟩
 cbv
 refine .inn ⟨by rw [hwi]; have : Nat.min 1 (toI n).toNat ≤ 1 := Nat.min_le_left _ _
                 exact om, ?_⟩
 cbv
 refine loopJ (fun (i : Nat) => 1 ≤ i ∧ i ≤ n) (fun i => ⟨48, [(7, .sl 1 (fun _ => some ⟨b, 0, none⟩) (fun _ => 0) (fun _ => n) (fun _ => 0)), (8, .int .i64 fun _ => toI i)], [.arr ad (fun _ => 1) (fun _ => sp) [.str fun _ => [s]] false, .arr (some ⟨b, 0, none⟩) (fun _ => n) (fun _ => 0) [.str fun _ => List.replicate i s ++ List.replicate (n - i) []] true], []⟩) (fun i => n - i) 1 ⟨by omega, h1⟩ (sub2 [0, 1] 1 hb rfl rfl rfl rfl rfl rfl rfl rfl ?_) ?_
 ·cbv
  rw [hwi]
  (repeat' first | with_reducible rfl | exact (show Ch.base _ = _ from rfl) | ((try simp only [toI, inI, List.length_nil] at *); omega) | exact trivial | refine ⟨?_, ?_⟩ | refine ⟨?_⟩ | intro _)
  rw [toI_toNat]
  have hm1 : min 1 n = 1 := by omega
  show overC _ 0 (List.take (min 1 n) [s]) = _
  rw [hm1]
  have := rep_copy s ([] : Bytes) 0 n 0 (by omega) (by omega)
  obtain ⟨m, rfl⟩ : ∃ m, n = m + 1 := ⟨n - 1, by omega⟩
  simp [overC, List.replicate_succ]
 ·rintro i ⟨hi1, hi⟩
  cbv
  refine ⟨fun hc => ?_, fun hc => ?_⟩
  ·replace hc := toI_lt hc
   cbv
   refine ⟨rf, fun a1 => ?_⟩
   cbv
   refine ⟨rf, fun a2 => ?_⟩
   cbv
   have hk : min ((toI i).toNat - (toI 0).toNat) ((toI n).toNat - (toI i).toNat) = min i (n - i) := by simp only [toI_toNat]; rfl
   have hk1 : min i (n - i) ≤ i := Nat.min_le_left _ _
   have hk2 : min i (n - i) ≤ n - i := Nat.min_le_right _ _
   have hk3 : 1 ≤ min i (n - i) := by omega
   generalize hkk : min i (n - i) = k at hk hk1 hk2 hk3
   refine .inn ⟨?_, ?_⟩
   ·show 0 + (toI 0).toNat + min ((toI i).toNat - (toI 0).toNat) ((toI n).toNat - (toI i).toNat) ≤ n ∧ 0 + (toI i).toNat + min ((toI i).toNat - (toI 0).toNat) ((toI n).toNat - (toI i).toNat) ≤ n
    rw [hk]
    exact om
   cbv
   refine .mk ?_ ?_
   ·show _ ≤ toI i + toI (min ((toI i).toNat - (toI 0).toNat) ((toI n).toNat - (toI i).toNat)) ∧ toI i + toI (min ((toI i).toNat - (toI 0).toNat) ((toI n).toNat - (toI i).toNat)) < _
    rw [hk]
    exact om
   cbv
   refine ⟨i + k, by omega, by omega, sub2 [0, 1] 1 hb rfl rfl rfl rfl rfl rfl rfl rfl ?_⟩
   have goal1 : overC (List.replicate i s ++ List.replicate (n - i) []) (0 + (toI i).toNat) (List.take (min ((toI i).toNat - (toI 0).toNat) ((toI n).toNat - (toI i).toNat)) (List.drop (0 + (toI 0).toNat) (List.replicate i s ++ List.replicate (n - i) []))) = List.replicate (i + k) s ++ List.replicate (n - (i + k)) [] := by
    rw [hk, toI_toNat, Nat.zero_add]
    exact rep_copy s [] i n k hk1 hk2
   have goal2 : toI i + toI (min ((toI i).toNat - (toI 0).toNat) ((toI n).toNat - (toI i).toNat)) = toI (i + k) := by rw [hk]; exact om
   generalize hX : List.replicate (i + k) s ++ List.replicate (n - (i + k)) [] = X at goal1 ⊢
   generalize hY : i + k = j at goal2 ⊢
   cbv
   exact ⟨⟨⟨⟨rfl, rfl, rfl⟩, ⟨rfl⟩, trivial⟩, ⟨⟨rfl, rfl, rfl⟩, ⟨goal1⟩, trivial⟩, trivial⟩, ⟨rfl, rfl, rfl, fun _ => rfl⟩, ⟨goal2⟩, trivial⟩
  ·replace hc := toI_nlt hc
   have : i = n := by omega
   subst this
   cbv
   refine Cl.by (v' := .sl 1 (fun _ => some ⟨b, 0, none⟩) (fun _ => 0) (fun _ => i) (fun _ => 0)) (hp' := [.arr ad (fun _ => 1) (fun _ => sp) [.str fun _ => [s]] false, .arr (some ⟨b, 0, none⟩) (fun _ => i) (fun _ => 0) [.str fun _ => List.replicate i s] true]) [.one 0, .one 1] 1 hb rfl rfl (nodup_of rfl) rfl ?_ rfl ?_ ⟨b, rfl, rfl⟩
   ·cbv
    (repeat' first | with_reducible rfl | exact (show Ch.base _ = _ from rfl) | ((try simp only [toI, inI, List.length_nil] at *); omega) | exact trivial | refine ⟨?_, ?_⟩ | refine ⟨?_⟩ | intro _)
    simp
   ·cbv
    exact rf
theorem dev_New (size blocks : Nat) (g : GeoOk size blocks) :
  FnSpec Tryz.prog 37 [] [.agg [.int .i64 fun _ => toI size, .int .i64 fun _ => toI blocks]]
   (fun v hp => ∃ b, v = .tup [.pt fun _ => ⟨b, 0, none⟩, .int .i64 fun _ => 0] ∧ hp = [.res fun _ => DevR b size blocks (List.replicate blocks (List.replicate size 0)) []]) := by
 obtain ⟨g1, g2, g3, g4, g5⟩ := g
 generalize hdu : List.replicate blocks (List.replicate size (0 : UInt8)) = du
 refine spec_cl mixed F37 rfl rfl rfl (fun Γ hΓ hb => ?_)
 cbv
 intro b0
 cbv
 refine callP_by hΓ (device_Check size blocks ⟨g1, g2, g3, g4, g5⟩) [] (by simp) trivial rfl ?_
 rintro x hp' ⟨rfl, rfl⟩
 refine ⟨rfl, ?_⟩
 cbv
 refine .no (neF rfl) ?_
 cbv
 refine callP_by hΓ (strings_Repeat0 size (by omega)) [] (by simp) trivial rfl ?_
 rintro x hp' ⟨rfl, rfl⟩
 refine ⟨rfl, ?_⟩
 cbv
 refine ⟨rfl, ?_⟩
 cbv
 refine ⟨rfl, ?_⟩
 cbv
 refine ⟨rf, fun b1 => ?_⟩
 cbv
 refine ⟨rfl, ?_⟩
 cbv
 refine ⟨rfl, ?_⟩
 cbv
 refine callP_by hΓ (slices_Repeat1 (List.replicate size 0) (some ⟨b1, 0, none⟩) (some ⟨b1, 0, none⟩) 0 blocks (by omega) (by omega)) [1] (by simp) ⟨⟨_, rfl, .inr ⟨rfl, rfl⟩⟩, trivial⟩ rfl ?_
 rintro x hp' ⟨b2, rfl, rfl⟩
 refine ⟨rfl, ?_⟩
 cbv
 refine ⟨rfl, ?_⟩
 cbv
 intro b3
 cbv
 refine Cl.nil [.int, .str] rfl ?_
 refine Cl.nil [.b8] rfl ?_
 cbv
 have hl : du.length = blocks := by rw [← hdu]; simp
 refine Cl.byd (v' := .tup [.pt fun _ => ⟨b3, 0, none⟩, .int .i64 fun _ => 0]) (hp' := [.res fun _ => DevR b3 size blocks du []]) [.pack 5 [3, 2, 4]] 0 hb rfl rfl (nodup_of rfl) rfl
  ⟨⟨_, _, ⟨143, some ⟨b2, 0, none⟩, some ⟨b2, 0, none⟩, 0, none, none, 0, 0⟩, rfl, rfl, rfl, rfl, ?_, rfl⟩, trivial⟩ rfl rfl ⟨b3, rfl, rfl⟩
 cbv
 (repeat' first | with_reducible rfl | exact (show Ch.base _ = _ from rfl) | ((try simp only [toI, inI, List.length_nil] at *); omega) | exact trivial | refine ⟨?_, ?_⟩ | refine ⟨?_⟩ | intro _)
 all_goals first | rfl | exact hdu
theorem dev_Geo (b size blocks : Nat) (dur : List Bytes) (pend : List (Nat × Bytes)) :
  FnSpec Tryz.prog 85 [.res fun _ => DevR b size blocks dur pend] [.pt fun _ => ⟨b, 0, none⟩]
   (fun v hp => v = .agg [.int .i64 fun _ => toI size, .int .i64 fun _ => toI blocks] ∧ hp = [.res fun _ => DevR b size blocks dur pend]) := by
 refine spec_by mixed F85 rfl rfl rfl (devO b size blocks dur pend) (fun _ => [.bp 1 0]) (fun q => rfl) (fun q => rfl) (fun Γ w h => open_pack (k := 0) h rfl) ?_
 intro q Γ hΓ hb
 obtain ⟨ty, a1, ad1, e1, a2, ad2, e2, ops⟩ := q
 cbv
 intro b1
 cbv
 refine dev_fin hb ⟨ty, a1, ad1, e1, a2, ad2, e2, ops⟩ rfl rfl rfl (v' := .agg [.int .i64 fun _ => toI size, .int .i64 fun _ => toI blocks]) ?_ rfl ⟨rfl, rfl⟩
 cbv
 exact rf
def flushD (dur : List Bytes) (pend : List (Nat × Bytes)) : List Bytes := pend.foldl (fun d p => d.set p.1 p.2) dur
theorem flushD_length (dur : List Bytes) (pend : List (Nat × Bytes)) : (flushD dur pend).length = dur.length := by
 unfold flushD
 induction pend generalizing dur with
 | nil => rfl
 | cons p l ih => simp only [List.foldl_cons]; rw [ih]; simp
theorem dev_Flush (b size blocks : Nat) (dur : List Bytes) (pend : List (Nat × Bytes)) (hb4 : blocks ≤ 4096) (hd : dur.length = blocks) (hp : pend.length < 1000000000) (hpn : ∀ p ∈ pend, p.1 < blocks) :
  FnSpec Tryz.prog 117 [.res fun _ => DevR b size blocks dur pend] [.pt fun _ => ⟨b, 0, none⟩]
   (fun v hp => v = .int .i64 (fun _ => 0) ∧ hp = [.res fun _ => DevR b size blocks (flushD dur pend) []]) := by
 refine spec_by mixed F117 rfl rfl rfl (devO b size blocks dur pend) (fun _ => [.bp 1 0]) (fun q => rfl) (fun q => rfl) (fun Γ w h => open_pack (k := 0) h rfl) ?_
 intro q Γ hΓ hb
 obtain ⟨ty, a1, ad1, e1, a2, ad2, e2, ops⟩ := q
 cbv
 refine callP_by hΓ (dev_done b size blocks dur pend ⟨ty, a1, ad1, e1, a2, ad2, e2, ops⟩) [1, 2, 3] (by simp) ⟨⟨_, rfl, .inl rfl⟩, ⟨_, rfl, .inl rfl⟩, ⟨_, rfl, .inl rfl⟩, trivial⟩ rfl ?_
 rintro x hp' ⟨ops', rfl, rfl⟩
 refine ⟨rfl, ?_⟩
 cbv
 refine loopJ (fun (i : Nat) => i ≤ pend.length) (fun i => ⟨34, [(0, .bp 1 0), (15, .sl 3 (fun _ => a2) (fun _ => 0) (fun _ => pend.length) (fun _ => e2)), (16, .int .i64 fun _ => toI pend.length), (17, .int .i64 fun _ => toI i)],
  [.gone none 1, .box b ty [.int .i64 fun _ => toI size, .int .i64 fun _ => toI blocks, .sl 2 (fun _ => a1) (fun _ => 0) (fun _ => dur.length) (fun _ => e1), .sl 3 (fun _ => a2) (fun _ => 0) (fun _ => pend.length) (fun _ => e2), .int .i64 fun _ => ops', .int .i64 fun _ => -1] true,
  .arr ad1 (fun _ => dur.length) (fun _ => e1) [.str fun _ => flushD dur (pend.take i)] true, .arr ad2 (fun _ => pend.length) (fun _ => e2) [.int .i64 fun _ => pend.map fun p => toI p.1, .str fun _ => pend.map (·.2)] true], []⟩) (fun i => pend.length - i) 0 (Nat.zero_le _) (sub2 [0, 1, 2, 3] 1 hb rfl rfl rfl rfl rfl rfl rfl rfl ?_) ?_
 ·cbv
  (repeat' first | with_reducible rfl | exact (show Ch.base _ = _ from rfl) | ((try simp only [toI, inI, List.length_nil] at *); omega) | exact trivial | refine ⟨?_, ?_⟩ | refine ⟨?_⟩ | intro _)
  rfl
 ·intro i hi
  cbv
  refine ⟨fun h => ?_, fun h => ?_⟩
  ·replace h := toI_lt h
   have h1 : (pend.map fun p => toI p.1).getD (0 + (toI i).toNat) 0 = toI pend[i].1 := by
    rw [toI_toNat, Nat.zero_add, List.getD_eq_getElem?_getD, List.getElem?_map, List.getElem?_eq_getElem h]; rfl
   have h2 : (pend.map (·.2)).getD (0 + (toI i).toNat) [] = pend[i].2 := by
    rw [toI_toNat, Nat.zero_add, List.getD_eq_getElem?_getD, List.getElem?_map, List.getElem?_eq_getElem h]; rfl
   have h3 := hpn pend[i] (List.getElem_mem h)
   have h4 : flushD dur (pend.take (i + 1)) = (flushD dur (pend.take i)).set pend[i].1 pend[i].2 := by
    unfold flushD
    rw [List.take_add_one, List.getElem?_eq_getElem h, List.foldl_append]
    rfl
   generalize hX : flushD dur (pend.take (i + 1)) = X at h4
   cbv
   refine ⟨rf, ?_⟩
   cbv
   refine ⟨rf, ?_⟩
   cbv
   intro b4
   cbv
   refine ⟨⟨by rw [h1]; exact om, by rw [h1]; exact om, by rw [h1]; exact om⟩, ?_⟩
   cbv
   refine ⟨⟨by rw [h1]; exact om, trivial⟩, ?_⟩
   cbv
   refine .mk rf ?_
   cbv
   refine ⟨i + 1, by omega, by omega, sub2 [0, 1, 2, 3] 1 hb rfl rfl rfl rfl rfl rfl rfl rfl ?_⟩
   rw [hX]
   cbv
   (repeat' first | with_reducible rfl | exact (show Ch.base _ = _ from rfl) | ((try simp only [toI, inI, List.length_nil] at *); omega) | exact trivial | refine ⟨?_, ?_⟩ | refine ⟨?_⟩ | intro _)
   rw [h4]
   show List.set _ (0 + ((pend.map fun p => toI p.1).getD (0 + (toI i).toNat) 0).toNat) ((pend.map (·.2)).getD (0 + (toI i).toNat) []) = _
   rw [h1, h2, toI_toNat, Nat.zero_add]
  ·replace h := toI_nlt h
   have : i = pend.length := by omega
   subst this
   have hfl := flushD_length dur pend
   generalize hX : flushD dur pend = X at hfl
   cbv
   refine Cl.nil [.int, .str] rfl ?_
   cbv
   refine Cl.by (v' := .int .i64 fun _ => 0) (hp' := [.res fun _ => DevR b size blocks X []]) [.pack 0 [1, 2, 4]] 1 hb rfl rfl (nodup_of rfl) rfl
    ⟨⟨_, _, ⟨ty, a1, ad1, e1, none, none, 0, ops'⟩, rfl, rfl, rfl, rfl, ?_, rfl⟩, trivial⟩ rfl ?_ ⟨rfl, rfl⟩
   ·cbv
    (repeat' first | with_reducible rfl | exact (show Ch.base _ = _ from rfl) | ((try simp only [toI, inI, List.length_nil] at *); omega) | exact trivial | refine ⟨?_, ?_⟩ | refine ⟨?_⟩ | intro _)
    all_goals first | rfl | (rw [List.take_length]; exact hX)
   ·cbv
    exact rf
end Go.Proofs.YtfoffehokhkohaaGreat
set_option maxRecDepth 20000
namespace Go.Proofs.YtfoffehokhkohaaGreat
open Go
def chk (off len c k : Nat) : List SV := [.sl 2 (fun _ => none) (fun _ => off + k * c) (fun _ => min c (len - k * c)) (fun _ => 0)]
theorem chk_lt (len c k : Nat) (hc : 1 ≤ c) (h : k * c < len) : k + 1 ≤ (len + c - 1) / c := by
 rw [Nat.le_div_iff_mul_le (by omega), Nat.succ_mul]
 omega
theorem chk_le (len c k : Nat) (hc : 1 ≤ c) (h : k ≤ (len + c - 1) / c) : k * c ≤ len + c - 1 := by
 rwa [Nat.le_div_iff_mul_le (by omega)] at h
theorem chk_ge (len c k : Nat) (hc : 1 ≤ c) (h : len ≤ k * c) : (len + c - 1) / c ≤ k := by
 refine Nat.le_of_lt_succ ((Nat.div_lt_iff_lt_mul (by omega)).2 ?_)
 rw [Nat.succ_mul]
 omega
theorem chunk_u16 (ad a : Option Addr) (n sp off len ext c b1 b2 ty1 ty2 : Nat) (l : List Nat) (hl : l.length = n) (h : off + len ≤ n) (hlen : len ≤ 1000000000) (hc : 1 ≤ c) (hc2 : c ≤ 1000000000) :
  ISpec Tryz.prog 186 [.box b1 ty1 [.sl 2 (fun _ => a) (fun _ => off) (fun _ => len) (fun _ => ext)] true, .box b2 ty2 [.int .i64 fun _ => toI c] true, .arr ad (fun _ => n) (fun _ => sp) [.nat .u16 fun _ => l] false] [] [.bp 0 0, .bp 1 0] ((List.range ((len + c - 1) / c)).map (chk off len c)) := by
 refine ⟨let ⟨fn, c, h1, h2, h3, _⟩ := F186.h; ⟨fn, c, h1, h2, h3⟩, rfl, ?_, rfl, rfl, fun lo Y Z hY => ?_⟩
 ·intro xs hx
  obtain ⟨k, _, rfl⟩ := List.mem_map.1 hx
  rfl
 refine spec_cl mixed F186 rfl rfl rfl (fun Γ hΓ hb => ?_)
 cbv
 refine loopJ (fun (k : Nat) => k ≤ (len + c - 1) / c) (fun k => ⟨31, [(0, .fn (.yield lo) [] []), (1, .bp 0 0), (2, .bp 1 0), (4, .int .i64 fun _ => toI (k * c))], [.box b1 ty1 [.sl 2 (fun _ => a) (fun _ => off) (fun _ => len) (fun _ => ext)] true, .box b2 ty2 [.int .i64 fun _ => toI c] true, .arr ad (fun _ => n) (fun _ => sp) [.nat .u16 fun _ => l] false, .res fun _ => Y k], []⟩) (fun k => (len + c - 1) / c - k) 0 (Nat.zero_le _) (sub2 [0, 1, 2, 3] 4 hb rfl rfl rfl rfl rfl rfl rfl rfl ?_) ?_
 ·cbv
  exact rf
 ·intro k hk
  have hk1 := chk_lt len c k hc
  have hk2 := chk_le len c k hc hk
  generalize hkc : k * c = kc at hk1 hk2
  cbv
  refine ⟨fun hcc => ?_, fun hcc => ?_⟩
  ·replace hcc := toI_lt hcc
   have hkN := hk1 hcc
   cbv
   refine ⟨rf, fun a1 => ?_⟩
   cbv
   have hmin : (if toI ((toI len).toNat - (toI kc).toNat) < toI c then toI ((toI len).toNat - (toI kc).toNat) else toI c) = toI (min c (len - kc)) := by
    simp only [toI_toNat]
    by_cases hh : toI (len - kc) < toI c
    ·rw [if_pos hh, Nat.min_eq_right om]
    ·rw [if_neg hh, Nat.min_eq_left om]
   refine .mk (by show _ ≤ toI kc + (if toI ((toI len).toNat - (toI kc).toNat) < toI c then toI ((toI len).toNat - (toI kc).toNat) else toI c) ∧ _; rw [hmin]; exact om) ?_
   cbv
   refine .mk (by show _ ≤ toI kc + (if toI ((toI len).toNat - (toI kc).toNat) < toI c then toI ((toI len).toNat - (toI kc).toNat) else toI c) ∧ _; rw [hmin]; exact om) ?_
   cbv
   have hm1 : min c (len - kc) ≤ len - kc := Nat.min_le_right _ _
   refine ⟨?_, fun a2 => ?_⟩
   ·show 0 ≤ toI kc ∧ toI kc ≤ toI kc + (if toI ((toI len).toNat - (toI kc).toNat) < toI c then toI ((toI len).toNat - (toI kc).toNat) else toI c) ∧ toI kc + (if toI ((toI len).toNat - (toI kc).toNat) < toI c then toI ((toI len).toNat - (toI kc).toNat) else toI c) ≤ toI kc + (if toI ((toI len).toNat - (toI kc).toNat) < toI c then toI ((toI len).toNat - (toI kc).toNat) else toI c) ∧ toI kc + (if toI ((toI len).toNat - (toI kc).toNat) < toI c then toI ((toI len).toNat - (toI kc).toNat) else toI c) ≤ toI (len + ext)
    rw [hmin]
    exact om
   cbv
   refine callV_byE hΓ (hY k (chk off len c k) (by rw [List.getElem?_map, List.getElem?_range hkN]; rfl)) [0, 1, 2, 3] (by simp) ⟨⟨_, rfl, .inl rfl⟩, ⟨_, rfl, .inl rfl⟩, ⟨_, rfl, .inl rfl⟩, ⟨_, rfl, .inl rfl⟩, trivial⟩ ?_ ?_
   ·have hm0 : 1 ≤ min c (len - kc) := by omega
    refine ⟨⟨?_, ?_, ?_, ?_⟩, trivial⟩
    ·show off + (toI kc).toNat = off + k * c
     rw [toI_toNat, hkc]
    ·show (toI kc + (if toI ((toI len).toNat - (toI kc).toNat) < toI c then toI ((toI len).toNat - (toI kc).toNat) else toI c)).toNat - (toI kc).toNat = min c (len - k * c)
     rw [hmin, hkc]; exact om
    ·show (toI kc + (if toI ((toI len).toNat - (toI kc).toNat) < toI c then toI ((toI len).toNat - (toI kc).toNat) else toI c)).toNat - (toI kc + (if toI ((toI len).toNat - (toI kc).toNat) < toI c then toI ((toI len).toNat - (toI kc).toNat) else toI c)).toNat = 0
     omega
    ·intro h0
     exfalso
     have h0 : (toI kc + (if toI ((toI len).toNat - (toI kc).toNat) < toI c then toI ((toI len).toNat - (toI kc).toNat) else toI c)).toNat - (toI kc).toNat + ((toI kc + (if toI ((toI len).toNat - (toI kc).toNat) < toI c then toI ((toI len).toNat - (toI kc).toNat) else toI c)).toNat - (toI kc + (if toI ((toI len).toNat - (toI kc).toNat) < toI c then toI ((toI len).toNat - (toI kc).toNat) else toI c)).toNat) = 0 := h0
     rw [hmin] at h0
     exact om
   rintro x hp' (⟨rfl, rfl⟩ | ⟨rfl, rfl⟩)
   ·refine ⟨rfl, ?_⟩
    cbv
    refine .mk rf ?_
    cbv
    have hks : kc + c = (k + 1) * c := by rw [← hkc, Nat.succ_mul]
    refine ⟨k + 1, hkN, by omega, sub2 [0, 1, 2, 3] 4 hb rfl rfl rfl rfl rfl rfl rfl rfl ?_⟩
    rw [← hks]
    cbv
    exact rf
   ·refine ⟨rfl, ?_⟩
    cbv
    exact Cl.same rfl (.inr rfl)
  ·replace hcc := toI_nlt hcc
   have hkE : k = (len + c - 1) / c := by
    refine Nat.le_antisymm hk ?_
    rw [← hkc] at hcc
    exact chk_ge len c k hc hcc
   cbv
   exact Cl.same rfl (.inl (by simp [appL, hkE]))
theorem chunk_u160 (ad a : Option Addr) (n sp off len ext c : Nat) (l : List Nat) (hc : 1 ≤ c) :
  FnSpec Tryz.prog 164 [.arr ad (fun _ => n) (fun _ => sp) [.nat .u16 fun _ => l] false] [.sl 0 (fun _ => a) (fun _ => off) (fun _ => len) (fun _ => ext), .int .i64 fun _ => toI c]
   (fun v hp => ∃ b1 b2, v = .fn (.func 186) [] [.bp 1 0, .bp 2 0] ∧ hp = [.arr ad (fun _ => n) (fun _ => sp) [.nat .u16 fun _ => l] false, .box b1 181 [.sl 0 (fun _ => a) (fun _ => off) (fun _ => len) (fun _ => ext)] true, .box b2 3 [.int .i64 fun _ => toI c] true]) := by
 refine spec_of mixed F164 rfl rfl rfl (fun Γ hΓ hb => ?_)
 cbv
 intro b1
 cbv
 intro b2
 cbv
 refine .no (decide_eq_false om) ?_
 cbv
 exact ⟨b1, b2, rfl, rfl⟩
theorem chunk_u64 (ad a : Option Addr) (n sp off len ext c b1 b2 ty1 ty2 : Nat) (l : List Nat) (hl : l.length = n) (h : off + len ≤ n) (hlen : len ≤ 1000000000) (hc : 1 ≤ c) (hc2 : c ≤ 1000000000) :
  ISpec Tryz.prog 193 [.box b1 ty1 [.sl 2 (fun _ => a) (fun _ => off) (fun _ => len) (fun _ => ext)] true, .box b2 ty2 [.int .i64 fun _ => toI c] true, .arr ad (fun _ => n) (fun _ => sp) [.nat .u64 fun _ => l] false] [] [.bp 0 0, .bp 1 0] ((List.range ((len + c - 1) / c)).map (chk off len c)) := by
 refine ⟨let ⟨fn, c, h1, h2, h3, _⟩ := F193.h; ⟨fn, c, h1, h2, h3⟩, rfl, ?_, rfl, rfl, fun lo Y Z hY => ?_⟩
 ·intro xs hx
  obtain ⟨k, _, rfl⟩ := List.mem_map.1 hx
  rfl
 refine spec_cl mixed F193 rfl rfl rfl (fun Γ hΓ hb => ?_)
 cbv
 refine loopJ (fun (k : Nat) => k ≤ (len + c - 1) / c) (fun k => ⟨31, [(0, .fn (.yield lo) [] []), (1, .bp 0 0), (2, .bp 1 0), (4, .int .i64 fun _ => toI (k * c))], [.box b1 ty1 [.sl 2 (fun _ => a) (fun _ => off) (fun _ => len) (fun _ => ext)] true, .box b2 ty2 [.int .i64 fun _ => toI c] true, .arr ad (fun _ => n) (fun _ => sp) [.nat .u64 fun _ => l] false, .res fun _ => Y k], []⟩) (fun k => (len + c - 1) / c - k) 0 (Nat.zero_le _) (sub2 [0, 1, 2, 3] 4 hb rfl rfl rfl rfl rfl rfl rfl rfl ?_) ?_
 ·cbv
  exact rf
 ·intro k hk
  have hk1 := chk_lt len c k hc
  have hk2 := chk_le len c k hc hk
  generalize hkc : k * c = kc at hk1 hk2
  cbv
  refine ⟨fun hcc => ?_, fun hcc => ?_⟩
  ·replace hcc := toI_lt hcc
   have hkN := hk1 hcc
   cbv
   refine ⟨rf, fun a1 => ?_⟩
   cbv
   have hmin : (if toI ((toI len).toNat - (toI kc).toNat) < toI c then toI ((toI len).toNat - (toI kc).toNat) else toI c) = toI (min c (len - kc)) := by
    simp only [toI_toNat]
    by_cases hh : toI (len - kc) < toI c
    ·rw [if_pos hh, Nat.min_eq_right om]
    ·rw [if_neg hh, Nat.min_eq_left om]
   refine .mk (by show _ ≤ toI kc + (if toI ((toI len).toNat - (toI kc).toNat) < toI c then toI ((toI len).toNat - (toI kc).toNat) else toI c) ∧ _; rw [hmin]; exact om) ?_
   cbv
   refine .mk (by show _ ≤ toI kc + (if toI ((toI len).toNat - (toI kc).toNat) < toI c then toI ((toI len).toNat - (toI kc).toNat) else toI c) ∧ _; rw [hmin]; exact om) ?_
   cbv
   have hm1 : min c (len - kc) ≤ len - kc := Nat.min_le_right _ _
   refine ⟨?_, fun a2 => ?_⟩
   ·show 0 ≤ toI kc ∧ toI kc ≤ toI kc + (if toI ((toI len).toNat - (toI kc).toNat) < toI c then toI ((toI len).toNat - (toI kc).toNat) else toI c) ∧ toI kc + (if toI ((toI len).toNat - (toI kc).toNat) < toI c then toI ((toI len).toNat - (toI kc).toNat) else toI c) ≤ toI kc + (if toI ((toI len).toNat - (toI kc).toNat) < toI c then toI ((toI len).toNat - (toI kc).toNat) else toI c) ∧ toI kc + (if toI ((toI len).toNat - (toI kc).toNat) < toI c then toI ((toI len).toNat - (toI kc).toNat) else toI c) ≤ toI (len + ext)
    rw [hmin]
    exact om
   cbv
   refine callV_byE hΓ (hY k (chk off len c k) (by rw [List.getElem?_map, List.getElem?_range hkN]; rfl)) [0, 1, 2, 3] (by simp) ⟨⟨_, rfl, .inl rfl⟩, ⟨_, rfl, .inl rfl⟩, ⟨_, rfl, .inl rfl⟩, ⟨_, rfl, .inl rfl⟩, trivial⟩ ?_ ?_
   ·have hm0 : 1 ≤ min c (len - kc) := by omega
    refine ⟨⟨?_, ?_, ?_, ?_⟩, trivial⟩
    ·show off + (toI kc).toNat = off + k * c
     rw [toI_toNat, hkc]
    ·show (toI kc + (if toI ((toI len).toNat - (toI kc).toNat) < toI c then toI ((toI len).toNat - (toI kc).toNat) else toI c)).toNat - (toI kc).toNat = min c (len - k * c)
     rw [hmin, hkc]; exact om
    ·show (toI kc + (if toI ((toI len).toNat - (toI kc).toNat) < toI c then toI ((toI len).toNat - (toI kc).toNat) else toI c)).toNat - (toI kc + (if toI ((toI len).toNat - (toI kc).toNat) < toI c then toI ((toI len).toNat - (toI kc).toNat) else toI c)).toNat = 0
     omega
    ·intro h0
     exfalso
     have h0 : (toI kc + (if toI ((toI len).toNat - (toI kc).toNat) < toI c then toI ((toI len).toNat - (toI kc).toNat) else toI c)).toNat - (toI kc).toNat + ((toI kc + (if toI ((toI len).toNat - (toI kc).toNat) < toI c then toI ((toI len).toNat - (toI kc).toNat) else toI c)).toNat - (toI kc + (if toI ((toI len).toNat - (toI kc).toNat) < toI c then toI ((toI len).toNat - (toI kc).toNat) else toI c)).toNat) = 0 := h0
     rw [hmin] at h0
     exact om
   rintro x hp' (⟨rfl, rfl⟩ | ⟨rfl, rfl⟩)
   ·refine ⟨rfl, ?_⟩
    cbv
    refine .mk rf ?_
    cbv
    have hks : kc + c = (k + 1) * c := by rw [← hkc, Nat.succ_mul]
    refine ⟨k + 1, hkN, by omega, sub2 [0, 1, 2, 3] 4 hb rfl rfl rfl rfl rfl rfl rfl rfl ?_⟩
    rw [← hks]
    cbv
    exact rf
   ·refine ⟨rfl, ?_⟩
    cbv
    exact Cl.same rfl (.inr rfl)
  ·replace hcc := toI_nlt hcc
   have hkE : k = (len + c - 1) / c := by
    refine Nat.le_antisymm hk ?_
    rw [← hkc] at hcc
    exact chk_ge len c k hc hcc
   cbv
   exact Cl.same rfl (.inl (by simp [appL, hkE]))
theorem chunk_u640 (ad a : Option Addr) (n sp off len ext c : Nat) (l : List Nat) (hc : 1 ≤ c) :
  FnSpec Tryz.prog 177 [.arr ad (fun _ => n) (fun _ => sp) [.nat .u64 fun _ => l] false] [.sl 0 (fun _ => a) (fun _ => off) (fun _ => len) (fun _ => ext), .int .i64 fun _ => toI c]
   (fun v hp => ∃ b1 b2, v = .fn (.func 193) [] [.bp 1 0, .bp 2 0] ∧ hp = [.arr ad (fun _ => n) (fun _ => sp) [.nat .u64 fun _ => l] false, .box b1 39 [.sl 0 (fun _ => a) (fun _ => off) (fun _ => len) (fun _ => ext)] true, .box b2 3 [.int .i64 fun _ => toI c] true]) := by
 refine spec_of mixed F177 rfl rfl rfl (fun Γ hΓ hb => ?_)
 cbv
 intro b1
 cbv
 intro b2
 cbv
 refine .no (decide_eq_false om) ?_
 cbv
 exact ⟨b1, b2, rfl, rfl⟩
theorem chunk_b (ad a : Option Addr) (n sp off len ext c b1 b2 ty1 ty2 : Nat) (l : List UInt8) (hl : l.length = n) (h : off + len ≤ n) (hlen : len ≤ 1000000000) (hc : 1 ≤ c) (hc2 : c ≤ 1000000000) :
  ISpec Tryz.prog 200 [.box b1 ty1 [.sl 2 (fun _ => a) (fun _ => off) (fun _ => len) (fun _ => ext)] true, .box b2 ty2 [.int .i64 fun _ => toI c] true, .arr ad (fun _ => n) (fun _ => sp) [.b8 fun _ => l] false] [] [.bp 0 0, .bp 1 0] ((List.range ((len + c - 1) / c)).map (chk off len c)) := by
 refine ⟨let ⟨fn, c, h1, h2, h3, _⟩ := F200.h; ⟨fn, c, h1, h2, h3⟩, rfl, ?_, rfl, rfl, fun lo Y Z hY => ?_⟩
 ·intro xs hx
  obtain ⟨k, _, rfl⟩ := List.mem_map.1 hx
  rfl
 refine spec_cl mixed F200 rfl rfl rfl (fun Γ hΓ hb => ?_)
 cbv
 refine loopJ (fun (k : Nat) => k ≤ (len + c - 1) / c) (fun k => ⟨31, [(0, .fn (.yield lo) [] []), (1, .bp 0 0), (2, .bp 1 0), (4, .int .i64 fun _ => toI (k * c))], [.box b1 ty1 [.sl 2 (fun _ => a) (fun _ => off) (fun _ => len) (fun _ => ext)] true, .box b2 ty2 [.int .i64 fun _ => toI c] true, .arr ad (fun _ => n) (fun _ => sp) [.b8 fun _ => l] false, .res fun _ => Y k], []⟩) (fun k => (len + c - 1) / c - k) 0 (Nat.zero_le _) (sub2 [0, 1, 2, 3] 4 hb rfl rfl rfl rfl rfl rfl rfl rfl ?_) ?_
 ·cbv
  exact rf
 ·intro k hk
  have hk1 := chk_lt len c k hc
  have hk2 := chk_le len c k hc hk
  generalize hkc : k * c = kc at hk1 hk2
  cbv
  refine ⟨fun hcc => ?_, fun hcc => ?_⟩
  ·replace hcc := toI_lt hcc
   have hkN := hk1 hcc
   cbv
   refine ⟨rf, fun a1 => ?_⟩
   cbv
   have hmin : (if toI ((toI len).toNat - (toI kc).toNat) < toI c then toI ((toI len).toNat - (toI kc).toNat) else toI c) = toI (min c (len - kc)) := by
    simp only [toI_toNat]
    by_cases hh : toI (len - kc) < toI c
    ·rw [if_pos hh, Nat.min_eq_right om]
    ·rw [if_neg hh, Nat.min_eq_left om]
   refine .mk (by show _ ≤ toI kc + (if toI ((toI len).toNat - (toI kc).toNat) < toI c then toI ((toI len).toNat - (toI kc).toNat) else toI c) ∧ _; rw [hmin]; exact om) ?_
   cbv
   refine .mk (by show _ ≤ toI kc + (if toI ((toI len).toNat - (toI kc).toNat) < toI c then toI ((toI len).toNat - (toI kc).toNat) else toI c) ∧ _; rw [hmin]; exact om) ?_
   cbv
   have hm1 : min c (len - kc) ≤ len - kc := Nat.min_le_right _ _
   refine ⟨?_, fun a2 => ?_⟩
   ·show 0 ≤ toI kc ∧ toI kc ≤ toI kc + (if toI ((toI len).toNat - (toI kc).toNat) < toI c then toI ((toI len).toNat - (toI kc).toNat) else toI c) ∧ toI kc + (if toI ((toI len).toNat - (toI kc).toNat) < toI c then toI ((toI len).toNat - (toI kc).toNat) else toI c) ≤ toI kc + (if toI ((toI len).toNat - (toI kc).toNat) < toI c then toI ((toI len).toNat - (toI kc).toNat) else toI c) ∧ toI kc + (if toI ((toI len).toNat - (toI kc).toNat) < toI c then toI ((toI len).toNat - (toI kc).toNat) else toI c) ≤ toI (len + ext)
    rw [hmin]
    exact om
   cbv
   refine callV_byE hΓ (hY k (chk off len c k) (by rw [List.getElem?_map, List.getElem?_range hkN]; rfl)) [0, 1, 2, 3] (by simp) ⟨⟨_, rfl, .inl rfl⟩, ⟨_, rfl, .inl rfl⟩, ⟨_, rfl, .inl rfl⟩, ⟨_, rfl, .inl rfl⟩, trivial⟩ ?_ ?_
   ·have hm0 : 1 ≤ min c (len - kc) := by omega
    refine ⟨⟨?_, ?_, ?_, ?_⟩, trivial⟩
    ·show off + (toI kc).toNat = off + k * c
     rw [toI_toNat, hkc]
    ·show (toI kc + (if toI ((toI len).toNat - (toI kc).toNat) < toI c then toI ((toI len).toNat - (toI kc).toNat) else toI c)).toNat - (toI kc).toNat = min c (len - k * c)
     rw [hmin, hkc]; exact om
    ·show (toI kc + (if toI ((toI len).toNat - (toI kc).toNat) < toI c then toI ((toI len).toNat - (toI kc).toNat) else toI c)).toNat - (toI kc + (if toI ((toI len).toNat - (toI kc).toNat) < toI c then toI ((toI len).toNat - (toI kc).toNat) else toI c)).toNat = 0
     omega
    ·intro h0
     exfalso
     have h0 : (toI kc + (if toI ((toI len).toNat - (toI kc).toNat) < toI c then toI ((toI len).toNat - (toI kc).toNat) else toI c)).toNat - (toI kc).toNat + ((toI kc + (if toI ((toI len).toNat - (toI kc).toNat) < toI c then toI ((toI len).toNat - (toI kc).toNat) else toI c)).toNat - (toI kc + (if toI ((toI len).toNat - (toI kc).toNat) < toI c then toI ((toI len).toNat - (toI kc).toNat) else toI c)).toNat) = 0 := h0
     rw [hmin] at h0
     exact om
   rintro x hp' (⟨rfl, rfl⟩ | ⟨rfl, rfl⟩)
   ·refine ⟨rfl, ?_⟩
    cbv
    refine .mk rf ?_
    cbv
    have hks : kc + c = (k + 1) * c := by rw [← hkc, Nat.succ_mul]
    refine ⟨k + 1, hkN, by omega, sub2 [0, 1, 2, 3] 4 hb rfl rfl rfl rfl rfl rfl rfl rfl ?_⟩
    rw [← hks]
    cbv
    exact rf
   ·refine ⟨rfl, ?_⟩
    cbv
    exact Cl.same rfl (.inr rfl)
  ·replace hcc := toI_nlt hcc
   have hkE : k = (len + c - 1) / c := by
    refine Nat.le_antisymm hk ?_
    rw [← hkc] at hcc
    exact chk_ge len c k hc hcc
   cbv
   exact Cl.same rfl (.inl (by simp [appL, hkE]))
theorem chunk_b0 (ad a : Option Addr) (n sp off len ext c : Nat) (l : List UInt8) (hc : 1 ≤ c) :
  FnSpec Tryz.prog 192 [.arr ad (fun _ => n) (fun _ => sp) [.b8 fun _ => l] false] [.sl 0 (fun _ => a) (fun _ => off) (fun _ => len) (fun _ => ext), .int .i64 fun _ => toI c]
   (fun v hp => ∃ b1 b2, v = .fn (.func 200) [] [.bp 1 0, .bp 2 0] ∧ hp = [.arr ad (fun _ => n) (fun _ => sp) [.b8 fun _ => l] false, .box b1 109 [.sl 0 (fun _ => a) (fun _ => off) (fun _ => len) (fun _ => ext)] true, .box b2 3 [.int .i64 fun _ => toI c] true]) := by
 refine spec_of mixed F192 rfl rfl rfl (fun Γ hΓ hb => ?_)
 cbv
 intro b1
 cbv
 intro b2
 cbv
 refine .no (decide_eq_false om) ?_
 cbv
 exact ⟨b1, b2, rfl, rfl⟩
end Go.Proofs.YtfoffehokhkohaaGreat
