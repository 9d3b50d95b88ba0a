/- Part 16 of what is proved in the last text (packed by a program of mine). -/
import Derived.Shelf.Strings.Builder1
import Derived.Shelf.Strings.Builder2
import Derived.Shelf.Strings.OnBuilder
import Derived.Shelf.Strings.BuilderF
import Derived.Shelf.Strings.Prefix
import Derived.Shelf.Bits.Mul64
import Derived.Shelf.Strings.Repeat
import Derived.Test.YtfoffehokhkohaaGreatProg
import Derived.Test.YtfoffehokhkohaaGreatK11
import Derived.Test.YtfoffehokhkohaaGreatK12
import Derived.Test.YtfoffehokhkohaaGreatK13
import Derived.Test.YtfoffehokhkohaaGreatK15
set_option linter.all false
set_option maxRecDepth 20000
namespace Go.Proofs.YtfoffehokhkohaaGreat
open Go
def countsL (b size blocks : Nat) (c : List Nat) : Nat × Option Addr × Option Addr × Nat → List Ch := fun q =>
 [.box b q.1 [.int .i64 fun _ => toI size, .int .i64 fun _ => toI blocks, .sl 1 (fun _ => q.2.1) (fun _ => 0) (fun _ => c.length) (fun _ => q.2.2.2)] true,
  .arr q.2.2.1 (fun _ => c.length) (fun _ => q.2.2.2) [.nat .u16 fun _ => c] true]
def CountsR (b size blocks : Nat) (c : List Nat) : RP := Pack (countsL b size blocks c)
theorem counts_fin {Γ : Ctx} (hb : Γ.b0.length = 1) {R : KV} {v v' : SV} {b ty size blocks n ext : Nat} {a ad : Option Addr} {c : Th (List Nat)} {c' : List Nat} (hc : c () = c') (hn : c'.length = n) (hv : eqV v (v'.ren [0])) (hs : v'.hs 1 = true) (h : R v' [.res fun _ => CountsR b size blocks c']) :
  Cl Γ R v [.gone none 1, .box b ty [.int .i64 fun _ => toI size, .int .i64 fun _ => toI blocks, .sl 2 (fun _ => a) (fun _ => 0) (fun _ => n) (fun _ => ext)] true, .arr ad (fun _ => n) (fun _ => ext) [.nat .u16 c] true] := by
 subst hn
 subst hc
 refine Cl.by (v' := v') (hp' := [.res fun _ => CountsR b size blocks (c ())]) [.pack 0 [1, 2]] 1 hb rfl rfl (nodup_of rfl) rfl ⟨⟨_, _, (ty, a, ad, ext), rfl, rfl, rfl, rfl, ?_, rfl⟩, trivial⟩ hs hv h
 cbv
 exact rf
structure CountsOk (c : List Nat) : Prop where
 len : c.length ≤ 4096
 lt : ∀ x ∈ c, x < 65536
theorem CountsOk.getD {c : List Nat} (h : CountsOk c) (n : Nat) : c.getD n 0 < 65536 := by
 rw [List.getD_eq_getElem?_getD]
 cases hc : c[n]? with
 | none => simp
 | some x => exact h.lt x (List.mem_of_getElem? hc)
theorem CountsOk.set {c : List Nat} (h : CountsOk c) (n x : Nat) (hx : x < 65536) : CountsOk (c.set n x) := by
 refine ⟨by simpa using h.len, fun y hy => ?_⟩
 rcases List.mem_or_eq_of_mem_set hy with h1 | h1
 ·exact h.lt y h1
 ·exact h1 ▸ hx
theorem counts_Get (b size blocks : Nat) (c : List Nat) (n : Nat) (hn : n < 4294967296) (hc : CountsOk c) :
  FnSpec Tryz.prog 52 [.res fun _ => CountsR b size blocks c] [.pt fun _ => ⟨b, 0, none⟩, .int .u32 fun _ => toI n]
   (fun v hp => v = .int .i64 (fun _ => toI (c.getD n 0)) ∧ hp = [.res fun _ => CountsR b size blocks c]) := by
 have hl := hc.len
 have hx := hc.getD n
 refine spec_by mixed F52 rfl rfl rfl (fun (q : Nat × Option Addr × Option Addr × Nat) => [.gone none 1, .box b q.1 [.int .i64 fun _ => toI size, .int .i64 fun _ => toI blocks, .sl 2 (fun _ => q.2.1) (fun _ => 0) (fun _ => c.length) (fun _ => q.2.2.2)] true,
  .arr q.2.2.1 (fun _ => c.length) (fun _ => q.2.2.2) [.nat .u16 fun _ => c] true]) (fun _ => [.bp 1 0, .int .u32 fun _ => toI n]) (fun q => rfl) (fun q => rfl) (fun Γ w h => open_pack (k := 0) h rfl) ?_
 rintro ⟨ty, a, ad, ext⟩ Γ hΓ hb
 have e1 : wr .u64 (toI n) = toI n := wr_u64 om om
 have e2 : wr .u64 (toI c.length) = toI c.length := wr_u64 om om
 cbv
 refine ⟨fun h => ?_, fun h => ?_⟩
 ·replace h := of_decide_eq_true h
  have h : toI c.length ≤ toI n := by rw [← e1, ← e2]; exact h
  cbv
  refine counts_fin hb rfl rfl (v' := .int .i64 fun _ => toI (c.getD n 0)) ⟨?_⟩ rfl ⟨rfl, rfl⟩
  show (0 : Int) = _
  rw [List.getD_eq_getElem?_getD, List.getElem?_eq_none om]
  rfl
 ·replace h := of_decide_eq_false h
  have h : ¬ toI c.length ≤ toI n := by rw [← e1, ← e2]; exact h
  cbv
  refine ⟨rf, ?_⟩
  cbv
  refine ⟨rf, ?_⟩
  cbv
  refine counts_fin hb rfl rfl (v' := .int .i64 fun _ => toI (c.getD n 0)) ⟨?_⟩ rfl ⟨rfl, rfl⟩
  show wr .i64 (toI (c.getD (0 + (toI n).toNat) 0)) = _
  rw [Nat.zero_add, toI_toNat]
  exact wr_i64 om
theorem counts_GetO (b ty size blocks ext : Nat) (a ad : Option Addr) (c : List Nat) (n : Nat) (hn : n < 4294967296) (hc : CountsOk c) :
  FnSpec Tryz.prog 52 [.box b ty [.int .i64 fun _ => toI size, .int .i64 fun _ => toI blocks, .sl 1 (fun _ => a) (fun _ => 0) (fun _ => c.length) (fun _ => ext)] true, .arr ad (fun _ => c.length) (fun _ => ext) [.nat .u16 fun _ => c] true] [.bp 0 0, .int .u32 fun _ => toI n]
   (fun v hp => v = .int .i64 (fun _ => toI (c.getD n 0)) ∧ hp = [.box b ty [.int .i64 fun _ => toI size, .int .i64 fun _ => toI blocks, .sl 1 (fun _ => a) (fun _ => 0) (fun _ => c.length) (fun _ => ext)] true, .arr ad (fun _ => c.length) (fun _ => ext) [.nat .u16 fun _ => c] true]) := by
 have hl := hc.len
 have hx := hc.getD n
 refine spec_cl mixed F52 rfl rfl rfl (fun Γ hΓ hb => ?_)
 have e1 : wr .u64 (toI n) = toI n := wr_u64 om om
 have e2 : wr .u64 (toI c.length) = toI c.length := wr_u64 om om
 cbv
 refine ⟨fun h => ?_, fun h => ?_⟩
 ·replace h := of_decide_eq_true h
  have h : toI c.length ≤ toI n := by rw [← e1, ← e2]; exact h
  cbv
  refine Cl.take 2 (.int .i64 fun _ => toI (c.getD n 0)) hb rfl rfl ⟨?_⟩ rfl ⟨rfl, rfl⟩
  show (0 : Int) = _
  rw [List.getD_eq_getElem?_getD, List.getElem?_eq_none om]
  rfl
 ·replace h := of_decide_eq_false h
  have h : ¬ toI c.length ≤ toI n := by rw [← e1, ← e2]; exact h
  cbv
  refine ⟨rf, ?_⟩
  cbv
  refine ⟨rf, ?_⟩
  cbv
  refine Cl.take 2 (.int .i64 fun _ => toI (c.getD n 0)) hb rfl rfl ⟨?_⟩ rfl ⟨rfl, rfl⟩
  show wr .i64 (toI (c.getD (0 + (toI n).toNat) 0)) = _
  rw [Nat.zero_add, toI_toNat]
  exact wr_i64 om
theorem counts_Get0 (n : Nat) : FnSpec Tryz.prog 52 [] [.nilp, .int .u32 fun _ => toI n] (fun v hp => v = .int .i64 (fun _ => 0) ∧ hp = []) := by
 refine spec_cl mixed F52 rfl rfl rfl (fun Γ hΓ hb => ?_)
 cbv
 exact Cl.tk 0 hb rfl rfl rfl ⟨rfl, rfl⟩
def cErr (c : List Nat) (n : Nat) : Int := if n < 2 ∨ c.length ≤ n then 2 else if c.getD n 0 = 0 then 8 else 0
theorem counts_at (b ty size blocks ext : Nat) (a ad : Option Addr) (c : List Nat) (n : Nat) (hn : n < 4294967296) (hc : CountsOk c) :
  FnSpec Tryz.prog 109 [.box b ty [.int .i64 fun _ => toI size, .int .i64 fun _ => toI blocks, .sl 1 (fun _ => a) (fun _ => 0) (fun _ => c.length) (fun _ => ext)] true, .arr ad (fun _ => c.length) (fun _ => ext) [.nat .u16 fun _ => c] true]
   [.bp 0 0, .int .u32 fun _ => toI n]
   (fun v hp => ((cErr c n ≠ 0 ∧ v = .tup [.nilp, .int .i64 fun _ => cErr c n]) ∨ (cErr c n = 0 ∧ v = .tup [.ep 1 (fun _ => n) 0, .int .i64 fun _ => 0])) ∧
    hp = [.box b ty [.int .i64 fun _ => toI size, .int .i64 fun _ => toI blocks, .sl 1 (fun _ => a) (fun _ => 0) (fun _ => c.length) (fun _ => ext)] true, .arr ad (fun _ => c.length) (fun _ => ext) [.nat .u16 fun _ => c] true]) := by
 have hl := hc.len
 have e1 : wr .u64 (toI n) = toI n := wr_u64 om om
 have e2 : wr .u64 (toI c.length) = toI c.length := wr_u64 om om
 have nilCase : ∀ (Γ : Ctx) (e : Int), Γ.b0.length = 2 → cErr c n = e → e ≠ 0 → Cl Γ (fun v hp => ((cErr c n ≠ 0 ∧ v = .tup [.nilp, .int .i64 fun _ => cErr c n]) ∨ (cErr c n = 0 ∧ v = .tup [.ep 1 (fun _ => n) 0, .int .i64 fun _ => 0])) ∧
       hp = [.box b ty [.int .i64 fun _ => toI size, .int .i64 fun _ => toI blocks, .sl 1 (fun _ => a) (fun _ => 0) (fun _ => c.length) (fun _ => ext)] true, .arr ad (fun _ => c.length) (fun _ => ext) [.nat .u16 fun _ => c] true]) (.tup [.nilp, .int .i64 fun _ => e])
       [.box b ty [.int .i64 fun _ => toI size, .int .i64 fun _ => toI blocks, .sl 1 (fun _ => a) (fun _ => 0) (fun _ => c.length) (fun _ => ext)] true, .arr ad (fun _ => c.length) (fun _ => ext) [.nat .u16 fun _ => c] true] := by
  intro Γ e hb he hne
  subst he
  exact Cl.same rfl ⟨.inl ⟨hne, rfl⟩, rfl⟩
 refine spec_cl mixed F109 rfl rfl rfl (fun Γ hΓ hb => ?_)
 cbv
 refine ⟨fun h => ?_, fun h => ?_⟩
 ·replace h := of_decide_eq_true h
  cbv
  exact nilCase Γ 2 hb (if_pos (.inl om)) (by decide)
 replace h := of_decide_eq_false h
 cbv
 refine ⟨fun h2 => ?_, fun h2 => ?_⟩
 ·replace h2 := of_decide_eq_true h2
  have h2 : toI c.length ≤ toI n := by rw [← e1, ← e2]; exact h2
  cbv
  exact nilCase Γ 2 hb (if_pos (.inr om)) (by decide)
 replace h2 := of_decide_eq_false h2
 have h2 : ¬ toI c.length ≤ toI n := by rw [← e1, ← e2]; exact h2
 have h3 : ¬ (n < 2 ∨ c.length ≤ n) := by exact om
 cbv
 refine ⟨rf, ?_⟩
 cbv
 refine ⟨rf, ?_⟩
 cbv
 have h4 : toI (c.getD (0 + (toI n).toNat) 0) = toI (c.getD n 0) := by rw [Nat.zero_add, toI_toNat]
 refine ⟨fun h5 => ?_, fun h5 => ?_⟩
 ·have h5 : toI (c.getD (0 + (toI n).toNat) 0) = 0 := by simpa using h5
  rw [h4] at h5
  cbv
  exact nilCase Γ 8 hb (by unfold cErr; rw [if_neg h3, if_pos om]) (by decide)
 ·have h5 : ¬ toI (c.getD (0 + (toI n).toNat) 0) = 0 := by simpa using h5
  rw [h4] at h5
  have h6 : cErr c n = 0 := by unfold cErr; rw [if_neg h3, if_neg om]
  cbv
  refine ⟨rf, ?_⟩
  cbv
  refine Cl.by (v' := .tup [.ep 1 (fun _ => n) 0, .int .i64 fun _ => 0]) (hp' := [.box b ty [.int .i64 fun _ => toI size, .int .i64 fun _ => toI blocks, .sl 1 (fun _ => a) (fun _ => 0) (fun _ => c.length) (fun _ => ext)] true, .arr ad (fun _ => c.length) (fun _ => ext) [.nat .u16 fun _ => c] true]) [.one 0, .one 1] 2 hb rfl rfl (nodup_of rfl) rfl ?_ rfl ?_ ⟨.inr ⟨h6, rfl⟩, rfl⟩
  ·cbv
   exact rf
  ·cbv
   exact rf
def cAdd (c : List Nat) (n : Nat) : Int × List Nat := if cErr c n ≠ 0 then (cErr c n, c) else if c.getD n 0 = 65535 then (12, c) else (0, c.set n (c.getD n 0 + 1))
def cSub (c : List Nat) (n : Nat) : Int × List Nat := if cErr c n ≠ 0 then (cErr c n, c) else (0, c.set n (c.getD n 0 - 1))
theorem cErr_zero {c : List Nat} {n : Nat} (h : cErr c n = 0) : 2 ≤ n ∧ n < c.length ∧ c.getD n 0 ≠ 0 := by
 unfold cErr at h
 by_cases h1 : n < 2 ∨ c.length ≤ n
 ·rw [if_pos h1] at h; omega
 ·rw [if_neg h1] at h
  by_cases h2 : c.getD n 0 = 0
  ·rw [if_pos h2] at h; omega
  ·exact ⟨by omega, by omega, h2⟩
theorem counts_Add (b size blocks : Nat) (c : List Nat) (n : Nat) (hn : n < 4294967296) (hc : CountsOk c) :
  FnSpec Tryz.prog 66 [.res fun _ => CountsR b size blocks c] [.pt fun _ => ⟨b, 0, none⟩, .int .u32 fun _ => toI n]
   (fun v hp => v = .int .i64 (fun _ => (cAdd c n).1) ∧ hp = [.res fun _ => CountsR b size blocks (cAdd c n).2]) := by
 have hx := hc.getD n
 refine spec_by mixed F66 rfl rfl rfl (fun (q : Nat × Option Addr × Option Addr × Nat) => [.gone none 1, .box b q.1 [.int .i64 fun _ => toI size, .int .i64 fun _ => toI blocks, .sl 2 (fun _ => q.2.1) (fun _ => 0) (fun _ => c.length) (fun _ => q.2.2.2)] true,
  .arr q.2.2.1 (fun _ => c.length) (fun _ => q.2.2.2) [.nat .u16 fun _ => c] true]) (fun _ => [.bp 1 0, .int .u32 fun _ => toI n]) (fun q => rfl) (fun q => rfl) (fun Γ w h => open_pack (k := 0) h rfl) ?_
 rintro ⟨ty, a, ad, ext⟩ Γ hΓ hb
 cbv
 refine callP_by hΓ (counts_at b ty size blocks ext a ad c n hn hc) [1, 2] (by simp) ⟨⟨_, rfl, .inl rfl⟩, ⟨_, rfl, .inl rfl⟩, trivial⟩ rfl ?_
 rintro x hp' ⟨⟨h1, rfl⟩ | ⟨h1, rfl⟩, rfl⟩
 ·refine ⟨rfl, ?_⟩
  cbv
  refine .yes (neT h1) ?_
  cbv
  have e : cAdd c n = (cErr c n, c) := if_pos h1
  refine counts_fin hb (c' := (cAdd c n).2) (by rw [e]) (by rw [e]) (v' := .int .i64 fun _ => (cAdd c n).1) ⟨by rw [e]⟩ rfl ⟨rfl, rfl⟩
 ·obtain ⟨h2, h3, h4⟩ := cErr_zero h1
  refine ⟨rfl, ?_⟩
  cbv
  refine .no (neF rfl) ?_
  cbv
  refine ⟨rf, ?_⟩
  cbv
  refine ⟨rf, ?_⟩
  cbv
  refine ⟨fun h5 => ?_, fun h5 => ?_⟩
  ·have h5 : toI (c.getD n 0) = 65535 := by simpa using h5
   cbv
   have e : cAdd c n = (12, c) := by unfold cAdd; rw [if_neg (by omega), if_pos om]
   refine counts_fin hb (c' := (cAdd c n).2) (by rw [e]) (by rw [e]) (v' := .int .i64 fun _ => (cAdd c n).1) ⟨by rw [e]⟩ rfl ⟨rfl, rfl⟩
  ·have h5 : ¬ toI (c.getD n 0) = 65535 := by simpa using h5
   have e : cAdd c n = (0, c.set n (c.getD n 0 + 1)) := by unfold cAdd; rw [if_neg (by omega), if_neg om]
   have ew : ari .add .u16 (toI (c.getD n 0)) 1 = toI (c.getD n 0 + 1) := (wr_u16 om om : wr .u16 (toI (c.getD n 0) + 1) = _).trans om
   cbv
   refine ⟨rf, ?_⟩
   cbv
   refine ⟨rf, ?_⟩
   cbv
   refine ⟨rf, ?_⟩
   cbv
   refine ⟨⟨by exact om, by rw [ew]; exact Int.natCast_nonneg _⟩, ?_⟩
   cbv
   refine counts_fin hb (c' := (cAdd c n).2) ?_ (by rw [e]; simp) (v' := .int .i64 fun _ => (cAdd c n).1) ⟨by rw [e]⟩ rfl ⟨rfl, rfl⟩
   rw [e, ew, toI_toNat]
theorem counts_Sub (b size blocks : Nat) (c : List Nat) (n : Nat) (hn : n < 4294967296) (hc : CountsOk c) :
  FnSpec Tryz.prog 58 [.res fun _ => CountsR b size blocks c] [.pt fun _ => ⟨b, 0, none⟩, .int .u32 fun _ => toI n]
   (fun v hp => ∃ k : Int, v = .tup [.int .i64 fun _ => k, .int .i64 fun _ => (cSub c n).1] ∧ hp = [.res fun _ => CountsR b size blocks (cSub c n).2]) := by
 have hx := hc.getD n
 refine spec_by mixed F58 rfl rfl rfl (fun (q : Nat × Option Addr × Option Addr × Nat) => [.gone none 1, .box b q.1 [.int .i64 fun _ => toI size, .int .i64 fun _ => toI blocks, .sl 2 (fun _ => q.2.1) (fun _ => 0) (fun _ => c.length) (fun _ => q.2.2.2)] true,
  .arr q.2.2.1 (fun _ => c.length) (fun _ => q.2.2.2) [.nat .u16 fun _ => c] true]) (fun _ => [.bp 1 0, .int .u32 fun _ => toI n]) (fun q => rfl) (fun q => rfl) (fun Γ w h => open_pack (k := 0) h rfl) ?_
 rintro ⟨ty, a, ad, ext⟩ Γ hΓ hb
 cbv
 refine callP_by hΓ (counts_at b ty size blocks ext a ad c n hn hc) [1, 2] (by simp) ⟨⟨_, rfl, .inl rfl⟩, ⟨_, rfl, .inl rfl⟩, trivial⟩ rfl ?_
 rintro x hp' ⟨⟨h1, rfl⟩ | ⟨h1, rfl⟩, rfl⟩
 ·refine ⟨rfl, ?_⟩
  cbv
  refine .yes (neT h1) ?_
  cbv
  have e : cSub c n = (cErr c n, c) := if_pos h1
  refine counts_fin hb (c' := (cSub c n).2) (by rw [e]) (by rw [e]) (v' := .tup [.int .i64 fun _ => 0, .int .i64 fun _ => (cSub c n).1]) ?_ rfl ⟨0, rfl, rfl⟩
  cbv
  exact ⟨⟨rfl⟩, ⟨by rw [e]⟩, trivial⟩
 ·obtain ⟨h2, h3, h4⟩ := cErr_zero h1
  have e : cSub c n = (0, c.set n (c.getD n 0 - 1)) := by unfold cSub; rw [if_neg (by omega)]
  have ew : ari .sub .u16 (toI (c.getD n 0)) 1 = toI (c.getD n 0 - 1) := (wr_u16 om om : wr .u16 (toI (c.getD n 0) - 1) = _).trans om
  refine ⟨rfl, ?_⟩
  cbv
  refine .no (neF rfl) ?_
  cbv
  refine ⟨rf, ?_⟩
  cbv
  refine ⟨rf, ?_⟩
  cbv
  refine ⟨rf, ?_⟩
  cbv
  refine ⟨⟨by exact om, by rw [ew]; exact Int.natCast_nonneg _⟩, ?_⟩
  cbv
  refine ⟨rf, ?_⟩
  cbv
  refine ⟨rf, ?_⟩
  cbv
  refine counts_fin hb (c' := (cSub c n).2) ?_ (by rw [e]; simp) (v' := .tup [.int .i64 fun _ => wr .i64 (toI ((c.set n (ari .sub .u16 (toI (c.getD n 0)) 1).toNat).getD n 0)), .int .i64 fun _ => (cSub c n).1]) ?_ rfl ⟨_, rfl, rfl⟩
  ·rw [e, ew, toI_toNat]
  ·cbv
   exact ⟨⟨rfl⟩, ⟨by rw [e]⟩, trivial⟩
theorem counts_Clone (b size blocks : Nat) (c : List Nat) (hc : CountsOk c) :
  FnSpec Tryz.prog 70 [.res fun _ => CountsR b size blocks c] [.pt fun _ => ⟨b, 0, none⟩]
   (fun v hp => ∃ b', v = .pt (fun _ => ⟨b', 0, none⟩) ∧ hp = [.res fun _ => CountsR b size blocks c, .res fun _ => CountsR b' size blocks c]) := by
 have hl := hc.len
 refine spec_by mixed F70 rfl rfl rfl (fun (q : Nat × Option Addr × Option Addr × Nat) => [.gone none 1, .box b q.1 [.int .i64 fun _ => toI size, .int .i64 fun _ => toI blocks, .sl 2 (fun _ => q.2.1) (fun _ => 0) (fun _ => c.length) (fun _ => q.2.2.2)] true,
  .arr q.2.2.1 (fun _ => c.length) (fun _ => q.2.2.2) [.nat .u16 fun _ => c] true]) (fun _ => [.bp 1 0]) (fun q => rfl) (fun q => rfl) (fun Γ w h => open_pack (k := 0) h rfl) ?_
 rintro ⟨ty, a, ad, ext⟩ Γ hΓ hb
 cbv
 refine callP_by hΓ (clone_u16 ad a c.length ext 0 c.length ext c rfl (by omega) (by omega)) [2] (by simp) ⟨⟨_, rfl, .inr ⟨rfl, rfl⟩⟩, trivial⟩ rfl ?_
 rintro x hp' ⟨a', ad', sp', rfl, rfl⟩
 refine ⟨rfl, ?_⟩
 cbv
 refine ⟨rfl, fun b' => ?_⟩
 cbv
 refine Cl.byd (v' := .pt fun _ => ⟨b', 0, none⟩) (hp' := [.res fun _ => CountsR b size blocks c, .res fun _ => CountsR b' size blocks c]) [.pack 0 [1, 2], .pack 0 [4, 3]] 1 hb rfl rfl (nodup_of rfl) rfl
  ⟨⟨_, _, (ty, a, ad, ext), rfl, rfl, rfl, rfl, ?_, rfl⟩, ⟨_, _, (183, a', ad', sp'), rfl, rfl, rfl, rfl, ?_, rfl⟩, trivial⟩ rfl rfl ⟨b', rfl, rfl⟩
 ·cbv
  exact rf
 ·cbv
  (repeat' first | with_reducible rfl | exact (show Ch.base _ = _ from rfl) | ((try simp only [toI, inI, List.length_nil] at *); omega) | exact trivial | refine ⟨?_, ?_⟩ | refine ⟨?_⟩ | intro _)
  simp [subl]
theorem counts_All (b size blocks : Nat) (c : List Nat) (hc : CountsOk c) :
  FnSpec Tryz.prog 63 [.res fun _ => CountsR b size blocks c] [.pt fun _ => ⟨b, 0, none⟩]
   (fun v hp => ∃ (a ad : Option Addr) (sp : Nat), v = .sl 1 (fun _ => a) (fun _ => 0) (fun _ => c.length) (fun _ => sp) ∧ hp = [.res fun _ => CountsR b size blocks c, .arr ad (fun _ => c.length) (fun _ => sp) [.int .i64 fun _ => c.map toI] true]) := by
 have hl := hc.len
 refine spec_by mixed F63 rfl rfl rfl (fun (q : Nat × Option Addr × Option Addr × Nat) => [.gone none 1, .box b q.1 [.int .i64 fun _ => toI size, .int .i64 fun _ => toI blocks, .sl 2 (fun _ => q.2.1) (fun _ => 0) (fun _ => c.length) (fun _ => q.2.2.2)] true,
  .arr q.2.2.1 (fun _ => c.length) (fun _ => q.2.2.2) [.nat .u16 fun _ => c] true]) (fun _ => [.bp 1 0]) (fun q => rfl) (fun q => rfl) (fun Γ w h => open_pack (k := 0) h rfl) ?_
 rintro ⟨ty, a, ad, ext⟩ Γ hΓ hb
 cbv
 refine loopJ (α := Nat × Option Addr × Option Addr × Nat) (fun (i, _, _, _) => i ≤ c.length) (fun (i, a', ad', sp') => ⟨23, [(2, .sl 3 (fun _ => a') (fun _ => 0) (fun _ => i) (fun _ => sp')), (10, .sl 2 (fun _ => a) (fun _ => 0) (fun _ => c.length) (fun _ => ext)), (11, .int .i64 fun _ => toI c.length), (12, .int .i64 fun _ => toI i)],
  [.gone none 1, .box b ty [.int .i64 fun _ => toI size, .int .i64 fun _ => toI blocks, .sl 2 (fun _ => a) (fun _ => 0) (fun _ => c.length) (fun _ => ext)] true, .arr ad (fun _ => c.length) (fun _ => ext) [.nat .u16 fun _ => c] true, .arr ad' (fun _ => i) (fun _ => sp') [.int .i64 fun _ => (c.take i).map toI] true], []⟩) (fun (i, _, _, _) => c.length - i) (0, none, none, 0) (Nat.zero_le _) (Sub.nil [.int] (sub2 [0, 1, 2, 3] 1 hb rfl rfl rfl rfl rfl rfl rfl rfl ?_)) ?_
 ·cbv
  (repeat' first | with_reducible rfl | exact (show Ch.base _ = _ from rfl) | ((try simp only [toI, inI, List.length_nil] at *); omega) | exact trivial | refine ⟨?_, ?_⟩ | refine ⟨?_⟩ | intro _)
  all_goals first | rfl | simp
 ·rintro ⟨i, a', ad', sp'⟩ hi
  have hi : i ≤ c.length := hi
  cbv
  refine ⟨fun h => ?_, fun h => ?_⟩
  ·replace h := toI_lt h
   cbv
   refine ⟨rf, ?_⟩
   cbv
   refine ⟨rf, ?_⟩
   cbv
   refine ⟨⟨trivial, trivial⟩, fun b1 => ?_⟩
   cbv
   refine .any ⟨rf, fun a2 a3 ext2 _ => ?_⟩
   cbv
   refine .mk rf ?_
   cbv
   refine ⟨(i + 1, a3, a2, ext2), show i + 1 ≤ c.length by omega, show c.length - (i + 1) < c.length - i by omega, sub2 [0, 1, 2, 5] 1 hb rfl rfl rfl rfl rfl rfl rfl rfl ?_⟩
   cbv
   (repeat' first | with_reducible rfl | exact (show Ch.base _ = _ from rfl) | ((try simp only [toI, inI, List.length_nil] at *); omega) | exact trivial | refine ⟨?_, ?_⟩ | refine ⟨?_⟩ | intro _)
   have hx := hc.getD i
   have e2 : (c.take (i + 1)).map toI = (c.take i).map toI ++ [toI (c.getD i 0)] := by
    have := subl_take c 0 c.length i (by omega) h 0
    simp only [subl, List.drop_zero, List.take_length, Nat.zero_add] at this
    rw [this]; simp
   rw [e2]
   have e3 : (0 + (toI i).toNat) = i := by rw [toI_toNat, Nat.zero_add]
   show List.take i (List.drop 0 _) ++ List.take 1 (List.drop 0 [wr .i64 (toI (c.getD (0 + (toI i).toNat) 0))]) = _
   rw [e3, List.drop_zero, List.take_of_length_le (by simp; omega), List.drop_zero, wr_i64 om]
   rfl
  ·replace h := toI_nlt h
   have : i = c.length := by omega
   subst this
   cbv
   refine Cl.by (v' := .sl 1 (fun _ => a') (fun _ => 0) (fun _ => c.length) (fun _ => sp')) (hp' := [.res fun _ => CountsR b size blocks c, .arr ad' (fun _ => c.length) (fun _ => sp') [.int .i64 fun _ => c.map toI] true]) [.pack 0 [1, 2], .one 3] 1 hb rfl rfl (nodup_of rfl) rfl
    ⟨⟨_, _, (ty, a, ad, ext), rfl, rfl, rfl, rfl, ?_, rfl⟩, ?_⟩ rfl ?_ ⟨a', ad', sp', rfl, rfl⟩
   ·cbv
    exact rf
   ·cbv
    (repeat' first | with_reducible rfl | exact (show Ch.base _ = _ from rfl) | ((try simp only [toI, inI, List.length_nil] at *); omega) | exact trivial | refine ⟨?_, ?_⟩ | refine ⟨?_⟩ | intro _)
    simp
   ·cbv
    exact rf
theorem counts_New (size blocks : Nat) (g : GeoOk size blocks) :
  FnSpec Tryz.prog 84 [] [.agg [.int .i64 fun _ => toI size, .int .i64 fun _ => toI blocks]]
   (fun v hp => ∃ b, v = .tup [.pt fun _ => ⟨b, 0, none⟩, .int .i64 fun _ => 0] ∧ hp = [.res fun _ => CountsR b size blocks (1 :: 1 :: List.replicate (blocks - 2) 0)]) := by
 obtain ⟨g1, g2, g3, g4, g5⟩ := g
 generalize hc0 : (1 :: 1 :: List.replicate (blocks - 2) 0) = c0
 refine spec_cl mixed F84 rfl rfl rfl (fun Γ hΓ hb => ?_)
 cbv
 intro b0
 cbv
 refine callP_by hΓ (device_Check size blocks ⟨g1, g2, g3, g4, g5⟩) [] (by simp) trivial rfl ?_
 rintro x hp' ⟨rfl, rfl⟩
 refine ⟨rfl, ?_⟩
 cbv
 refine .no (neF rfl) ?_
 cbv
 refine ⟨rf, fun b1 => ?_⟩
 cbv
 refine ⟨rfl, fun b2 => ?_⟩
 cbv
 refine ⟨rf, ?_⟩
 cbv
 refine ⟨rf, ?_⟩
 cbv
 refine ⟨rf, ?_⟩
 cbv
 refine ⟨rf, ?_⟩
 cbv
 refine Cl.nil [.b8] rfl ?_
 cbv
 refine Cl.byd (v' := .tup [.pt fun _ => ⟨b2, 0, none⟩, .int .i64 fun _ => 0]) (hp' := [.res fun _ => CountsR b2 size blocks c0]) [.pack 3 [2, 1]] 0 hb rfl rfl (nodup_of rfl) rfl
  ⟨⟨_, _, (183, some ⟨b1, 0, none⟩, some ⟨b1, 0, none⟩, 0), rfl, rfl, rfl, rfl, ?_, rfl⟩, trivial⟩ rfl rfl ⟨b2, rfl, rfl⟩
 cbv
 have el : c0.length = blocks := by rw [← hc0]; simp; omega
 have eL : ((List.replicate (toI blocks).toNat 0).set 0 1).set 1 1 = c0 := by
  rw [toI_toNat, ← hc0, show blocks = (blocks - 2) + 1 + 1 by omega, List.replicate_succ, List.replicate_succ]
  rfl
 refine ⟨⟨⟨rfl, rfl⟩, ⟨rfl⟩, ⟨rfl⟩, ⟨by rfl, by rw [el]; exact om, by exact om, fun _ => rfl⟩, trivial⟩, ⟨⟨rfl, by rw [el]; exact om, rfl⟩, ⟨eL⟩, trivial⟩, trivial⟩
def cTake (c held : List Nat) : Option Nat := (List.range c.length).find? fun i => c.getD i 0 == 0 && held.getD i 0 == 0
theorem find_range {p : Nat → Bool} {n i : Nat} (hi : i < n) (h : ∀ j, j < i → p j = false) (hp : p i = true) : (List.range n).find? p = some i := by
 rw [List.find?_range_eq_some]
 exact ⟨hp, by simpa using hi, fun j hj => by simp [h j hj]⟩
theorem find_range_none {p : Nat → Bool} {n : Nat} (h : ∀ j, j < n → p j = false) : (List.range n).find? p = none := by
 rw [List.find?_range_eq_none]
 intro j hj
 simp [h j hj]
theorem counts_Take (b bh size blocks : Nat) (c held : List Nat) (hc : CountsOk c) (hh : CountsOk held) :
  FnSpec Tryz.prog 87 [.res fun _ => CountsR b size blocks c, .res fun _ => CountsR bh size blocks held] [.pt fun _ => ⟨b, 0, none⟩, .pt fun _ => ⟨bh, 0, none⟩]
   (fun v hp => match cTake c held with
    | some i => v = .tup [.int .u32 fun _ => toI i, .int .i64 fun _ => 0] ∧ hp = [.res fun _ => CountsR b size blocks (c.set i 1), .res fun _ => CountsR bh size blocks held]
    | none => v = .tup [.int .u32 fun _ => 0, .int .i64 fun _ => 9] ∧ hp = [.res fun _ => CountsR b size blocks c, .res fun _ => CountsR bh size blocks held]) := by
 have hl := hc.len
 refine spec_by mixed F87 rfl rfl rfl (fun (q : (Nat × Option Addr × Option Addr × Nat) × (Nat × Option Addr × Option Addr × Nat)) => [.gone none 1, .gone none 1, .box b q.1.1 [.int .i64 fun _ => toI size, .int .i64 fun _ => toI blocks, .sl 3 (fun _ => q.1.2.1) (fun _ => 0) (fun _ => c.length) (fun _ => q.1.2.2.2)] true,
  .arr q.1.2.2.1 (fun _ => c.length) (fun _ => q.1.2.2.2) [.nat .u16 fun _ => c] true, .box bh q.2.1 [.int .i64 fun _ => toI size, .int .i64 fun _ => toI blocks, .sl 5 (fun _ => q.2.2.1) (fun _ => 0) (fun _ => held.length) (fun _ => q.2.2.2.2)] true,
  .arr q.2.2.2.1 (fun _ => held.length) (fun _ => q.2.2.2.2) [.nat .u16 fun _ => held] true]) (fun _ => [.bp 2 0, .bp 4 0]) (fun q => rfl) (fun q => rfl) (fun Γ w h => by
   obtain ⟨q, h⟩ := open_pack (k := 0) h rfl
   obtain ⟨q2, h⟩ := open_pack (k := 1) h rfl
   exact ⟨(q, q2), h⟩) ?_
 rintro ⟨⟨ty, a, ad, ext⟩, ⟨ty2, a2, ad2, ext2⟩⟩ Γ hΓ hb
 cbv
 refine .no (by simp) ?_
 cbv
 refine loopJ (fun (i : Nat) => i ≤ c.length ∧ ∀ j, j < i → (c.getD j 0 == 0 && held.getD j 0 == 0) = false) (fun i => ⟨53, [(0, .bp 2 0), (1, .bp 4 0), (28, .sl 3 (fun _ => a) (fun _ => 0) (fun _ => c.length) (fun _ => ext)), (29, .int .i64 fun _ => toI c.length), (30, .int .i64 fun _ => toI i)],
  [.gone none 1, .gone none 1, .box b ty [.int .i64 fun _ => toI size, .int .i64 fun _ => toI blocks, .sl 3 (fun _ => a) (fun _ => 0) (fun _ => c.length) (fun _ => ext)] true,
  .arr ad (fun _ => c.length) (fun _ => ext) [.nat .u16 fun _ => c] true, .box bh ty2 [.int .i64 fun _ => toI size, .int .i64 fun _ => toI blocks, .sl 5 (fun _ => a2) (fun _ => 0) (fun _ => held.length) (fun _ => ext2)] true,
  .arr ad2 (fun _ => held.length) (fun _ => ext2) [.nat .u16 fun _ => held] true], []⟩) (fun i => c.length - i) 0 ⟨Nat.zero_le _, fun j hj => absurd hj (Nat.not_lt_zero _)⟩ (sub2 [0, 1, 2, 3, 4, 5] 2 hb rfl rfl rfl rfl rfl rfl rfl rfl ?_) ?_
 ·cbv
  exact rf
 ·rintro i ⟨hi, hno⟩
  cbv
  refine ⟨fun h => ?_, fun h => ?_⟩
  ·replace h := toI_lt h
   cbv
   refine ⟨rf, ?_⟩
   cbv
   refine ⟨rf, ?_⟩
   have ew : wr .u32 (toI i) = toI i := wr_u32 om om
   have e0 : 0 + (toI i).toNat = i := by rw [toI_toNat, Nat.zero_add]
   have next : (c.getD i 0 == 0 && held.getD i 0 == 0) = false → i + 1 ≤ c.length ∧ (∀ j, j < i + 1 → (c.getD j 0 == 0 && held.getD j 0 == 0) = false) := by
    intro hz
    refine ⟨h, fun j hj => ?_⟩
    by_cases e : j = i
    ·subst e; exact hz
    ·exact hno j (by omega)
   cbv
   refine ⟨fun h1 => ?_, fun h1 => ?_⟩
   ·have h1 : toI (c.getD (0 + (toI i).toNat) 0) = 0 := by simpa using h1
    rw [e0] at h1
    have h1 : c.getD i 0 = 0 := by exact om
    cbv
    refine callP_eq (args' := [.bp 4 0, .int .u32 fun _ => toI i]) (hp' := [.gone none 1, .gone none 1, .box b ty [.int .i64 fun _ => toI size, .int .i64 fun _ => toI blocks, .sl 3 (fun _ => a) (fun _ => 0) (fun _ => c.length) (fun _ => ext)] true,
  .arr ad (fun _ => c.length) (fun _ => ext) [.nat .u16 fun _ => c] true, .box bh ty2 [.int .i64 fun _ => toI size, .int .i64 fun _ => toI blocks, .sl 5 (fun _ => a2) (fun _ => 0) (fun _ => held.length) (fun _ => ext2)] true,
  .arr ad2 (fun _ => held.length) (fun _ => ext2) [.nat .u16 fun _ => held] true]) [.one 0, .one 1, .one 2, .one 3, .one 4, .one 5] 2 hb rfl rfl (nodup_of rfl) rfl rfl rfl ?_ ?_
    ·cbv
     exact rf
    refine callP_by hΓ (counts_GetO bh ty2 size blocks ext2 a2 ad2 held i (by omega) hh) [4, 5] (by simp) ⟨⟨_, rfl, .inl rfl⟩, ⟨_, rfl, .inl rfl⟩, trivial⟩ rfl ?_
    rintro x hp' ⟨rfl, rfl⟩
    refine ⟨rfl, ?_⟩
    cbv
    refine ⟨fun h2 => ?_, fun h2 => ?_⟩
    ·have h2 : toI (held.getD i 0) = 0 := by simpa using h2
     have h2 : held.getD i 0 = 0 := by exact om
     have ht : cTake c held = some i := find_range h hno (by rw [h1, h2]; rfl)
     cbv
     refine ⟨rf, ?_⟩
     cbv
     refine ⟨rf, ?_⟩
     cbv
     refine Cl.by (v' := .tup [.int .u32 fun _ => toI i, .int .i64 fun _ => 0]) (hp' := [.res fun _ => CountsR b size blocks (c.set i 1), .res fun _ => CountsR bh size blocks held]) [.pack 0 [2, 3], .pack 1 [4, 5]] 2 hb rfl rfl (nodup_of rfl) rfl
      ⟨⟨_, _, (ty, a, ad, ext), rfl, rfl, rfl, rfl, ?_, rfl⟩, ⟨_, _, (ty2, a2, ad2, ext2), rfl, rfl, rfl, rfl, ?_, rfl⟩, trivial⟩ rfl ?_ ?_
     ·generalize hcs : c.set i 1 = cs
      have hcl : cs.length = c.length := by rw [← hcs]; simp
      cbv
      refine ⟨⟨⟨rfl, rfl⟩, ⟨rfl⟩, ⟨rfl⟩, ⟨rfl, hcl.symm, rfl, fun _ => rfl⟩, trivial⟩, ⟨⟨rfl, hcl.symm, rfl⟩, ⟨?_⟩, trivial⟩, trivial⟩
      show c.set (0 + (toI i).toNat) 1 = cs
      rw [e0, hcs]
     ·cbv
      exact rf
     ·cbv
      exact ⟨⟨ew⟩, ⟨rfl⟩, trivial⟩
     ·rw [ht]; exact ⟨rfl, rfl⟩
    ·have h2 : ¬ toI (held.getD i 0) = 0 := by simpa using h2
     have h2 : held.getD i 0 ≠ 0 := by exact om
     cbv
     refine .mk rf ?_
     cbv
     refine ⟨i + 1, next (by rw [Bool.and_eq_false_iff]; exact .inr (beq_false_of_ne h2)), by omega, sub2 [0, 1, 2, 3, 4, 5] 2 hb rfl rfl rfl rfl rfl rfl rfl rfl ?_⟩
     cbv
     exact rf
   ·have h1 : ¬ toI (c.getD (0 + (toI i).toNat) 0) = 0 := by simpa using h1
    rw [e0] at h1
    have h1 : c.getD i 0 ≠ 0 := by exact om
    cbv
    refine .mk rf ?_
    cbv
    refine ⟨i + 1, next (by rw [Bool.and_eq_false_iff]; exact .inl (beq_false_of_ne h1)), by omega, sub2 [0, 1, 2, 3, 4, 5] 2 hb rfl rfl rfl rfl rfl rfl rfl rfl ?_⟩
    cbv
    exact rf
  ·replace h := toI_nlt h
   have : i = c.length := by omega
   subst this
   have ht : cTake c held = none := find_range_none hno
   cbv
   refine Cl.by (v' := .tup [.int .u32 fun _ => 0, .int .i64 fun _ => 9]) (hp' := [.res fun _ => CountsR b size blocks c, .res fun _ => CountsR bh size blocks held]) [.pack 0 [2, 3], .pack 1 [4, 5]] 2 hb rfl rfl (nodup_of rfl) rfl
    ⟨⟨_, _, (ty, a, ad, ext), rfl, rfl, rfl, rfl, ?_, rfl⟩, ⟨_, _, (ty2, a2, ad2, ext2), rfl, rfl, rfl, rfl, ?_, rfl⟩, trivial⟩ rfl ?_ ?_
   ·cbv
    exact rf
   ·cbv
    exact rf
   ·cbv
    exact rf
   ·rw [ht]; exact ⟨rfl, rfl⟩
end Go.Proofs.YtfoffehokhkohaaGreat
namespace Go.Proofs
open Go.Shelf
open Go.RowKit in
open Go.RowKit in
open Go.RowKit in
open Go.RowKit in
open Go.RowKit in
open Go.RowKit in
open Go.RowKit in
open Go.RowKit in
open Go.RowKit in
open Go.RowKit in
open Go.RowKit in
open Go.RowKit in
open Go.RowKit Go.Lib in
open Go.RowKit Go.Lib in
open Go.RowKit Go.Lib in
def Tryz.lays212_ren : Go.Shelf.Ren := ⟨fun | 212 => 133 | 263 => 173 | 264 => 174 | n => n, fun | 46 => 173 | 51 => 30 | 146 => 250 | 53 => 34 | 148 => 252 | n => n, fun | n => n⟩
theorem Tryz.lays212 : Go.Proofs.Lays.n212 Tryz.prog Tryz.lays212_ren := {
 mixed := by kernel_rfl
 f212 := Tryz.func133.trans (congrArg some (by kernel_rfl))
 f263 := Tryz.func173.trans (congrArg some (by kernel_rfl))
 f264 := Tryz.func174.trans (congrArg some (by kernel_rfl))
 t46 := Tryz.underlying173
 a46 := Tryz.isAgg173
 z46 := Tryz.sizeOf173
 v46 := Tryz.zeroValue173
 t51 := Tryz.underlying30
 a51 := Tryz.isAgg30
 z51 := Tryz.sizeOf30
 v51 := Tryz.zeroValue30
 t53 := Tryz.underlying34
 a53 := Tryz.isAgg34
 z53 := Tryz.sizeOf34
 v53 := Tryz.zeroValue34
 t146 := Tryz.underlying250
 a146 := Tryz.isAgg250
 z146 := Tryz.sizeOf250
 v146 := Tryz.zeroValue250
 t148 := Tryz.underlying252
 a148 := Tryz.isAgg252
 z148 := Tryz.sizeOf252
 v148 := Tryz.zeroValue252 }
open Go.RowKit Go.Lib in
theorem Tryz.bits_Mul (x y : Nat) (hx : x < 18446744073709551616) (hy : y < 18446744073709551616) (w : World) :
  Calls Tryz.prog 133 #[.int .u64 x, .int .u64 y] w fun e w' => e = .returned (.tuple #[.int .u64 ((x * y / 18446744073709551616 : Nat) : Int), .int .u64 ((x * y % 18446744073709551616 : Nat) : Int)]) ∧ w' = w := Any.bits_Mul Tryz.lays212 x y hx hy w
def Tryz.lays105_ren : Go.Shelf.Ren := ⟨fun | 105 => 83 | 212 => 133 | 99 => 134 | 165 => 120 | 166 => 121 | 170 => 135 | 169 => 122 | 263 => 173 | 264 => 174 | 206 => 175 | 240 => 165 | 241 => 166 | 276 => 187 | 277 => 188 | n => n, fun | 9 => 9 | 3 => 3 | 4 => 4 | 20 => 20 | 0 => 0 | 46 => 173 | 109 => 215 | 5 => 5 | 72 => 199 | 76 => 203 | 51 => 30 | 146 => 250 | 53 => 34 | 148 => 252 | 70 => 197 | 37 => 109 | 75 => 202 | 127 => 248 | 164 => 269 | 80 => 71 | n => n, fun | n => n⟩
theorem Tryz.lays105 : Go.Proofs.Lays.n105 Tryz.prog Tryz.lays105_ren := {
 mixed := by kernel_rfl
 f99 := Tryz.func134.trans (congrArg some (by kernel_rfl))
 f105 := Tryz.func83.trans (congrArg some (by kernel_rfl))
 f165 := Tryz.func120.trans (congrArg some (by kernel_rfl))
 f166 := Tryz.func121.trans (congrArg some (by kernel_rfl))
 f169 := Tryz.func122.trans (congrArg some (by kernel_rfl))
 f170 := Tryz.func135.trans (congrArg some (by kernel_rfl))
 f206 := Tryz.func175.trans (congrArg some (by kernel_rfl))
 f212 := Tryz.func133.trans (congrArg some (by kernel_rfl))
 f240 := Tryz.func165.trans (congrArg some (by kernel_rfl))
 f241 := Tryz.func166.trans (congrArg some (by kernel_rfl))
 f263 := Tryz.func173.trans (congrArg some (by kernel_rfl))
 f264 := Tryz.func174.trans (congrArg some (by kernel_rfl))
 f276 := Tryz.func187.trans (congrArg some (by kernel_rfl))
 f277 := Tryz.func188.trans (congrArg some (by kernel_rfl))
 t0 := Tryz.underlying0
 a0 := Tryz.isAgg0
 z0 := Tryz.sizeOf0
 v0 := Tryz.zeroValue0
 t3 := Tryz.underlying3
 a3 := Tryz.isAgg3
 z3 := Tryz.sizeOf3
 v3 := Tryz.zeroValue3
 t4 := Tryz.underlying4
 a4 := Tryz.isAgg4
 z4 := Tryz.sizeOf4
 v4 := Tryz.zeroValue4
 t5 := Tryz.underlying5
 a5 := Tryz.isAgg5
 z5 := Tryz.sizeOf5
 v5 := Tryz.zeroValue5
 t9 := Tryz.underlying9
 a9 := Tryz.isAgg9
 z9 := Tryz.sizeOf9
 v9 := Tryz.zeroValue9
 t20 := Tryz.underlying20
 a20 := Tryz.isAgg20
 z20 := Tryz.sizeOf20
 v20 := Tryz.zeroValue20
 t37 := Tryz.underlying109
 a37 := Tryz.isAgg109
 z37 := Tryz.sizeOf109
 v37 := Tryz.zeroValue109
 t46 := Tryz.underlying173
 a46 := Tryz.isAgg173
 z46 := Tryz.sizeOf173
 v46 := Tryz.zeroValue173
 t51 := Tryz.underlying30
 a51 := Tryz.isAgg30
 z51 := Tryz.sizeOf30
 v51 := Tryz.zeroValue30
 t53 := Tryz.underlying34
 a53 := Tryz.isAgg34
 z53 := Tryz.sizeOf34
 v53 := Tryz.zeroValue34
 t70 := Tryz.underlying197
 a70 := Tryz.isAgg197
 z70 := Tryz.sizeOf197
 v70 := Tryz.zeroValue197
 t72 := Tryz.underlying199
 a72 := Tryz.isAgg199
 z72 := Tryz.sizeOf199
 v72 := Tryz.zeroValue199
 t75 := Tryz.underlying202
 a75 := Tryz.isAgg202
 z75 := Tryz.sizeOf202
 v75 := Tryz.zeroValue202
 t76 := Tryz.underlying203
 a76 := Tryz.isAgg203
 z76 := Tryz.sizeOf203
 v76 := Tryz.zeroValue203
 t109 := Tryz.underlying215
 a109 := Tryz.isAgg215
 z109 := Tryz.sizeOf215
 v109 := Tryz.zeroValue215
 t127 := Tryz.underlying248
 a127 := Tryz.isAgg248
 z127 := Tryz.sizeOf248
 v127 := Tryz.zeroValue248
 t146 := Tryz.underlying250
 a146 := Tryz.isAgg250
 z146 := Tryz.sizeOf250
 v146 := Tryz.zeroValue250
 t148 := Tryz.underlying252
 a148 := Tryz.isAgg252
 z148 := Tryz.sizeOf252
 v148 := Tryz.zeroValue252
 t164 := Tryz.underlying269
 a164 := Tryz.isAgg269
 z164 := Tryz.sizeOf269
 v164 := Tryz.zeroValue269 }
theorem Tryz.Builder_Extra_105 : Builder.Extra Tryz.prog Tryz.lays105_ren := {
 sizeBuilder := by kernel_rfl
 liesBuilder := by kernel_rfl
 t5 := Tryz.underlying5
 a5 := Tryz.isAgg5
 z5 := Tryz.sizeOf5
 v5 := Tryz.zeroValue5
 infoByte := by kernel_rfl
 cellsByte := by kernel_rfl
 sizeByte := by kernel_rfl
 neB5 := by decide }
open Go.RowKit Go.Lib in
open Go.RowKit Go.Lib in
open Go.RowKit Go.Lib in
open Go.RowKit Go.Lib in
open Go.RowKit Go.Lib in
open Go.RowKit Go.Lib in
open Go.RowKit Go.Lib in
theorem Tryz.strings_Repeat (s : ByteArray) (c : Nat) (w : World) (hc : c ≤ 9223372036854775807) (hlen : s.size * c ≤ 140737488355328) :
  Calls Tryz.prog 83 #[.string s, .int .i64 c] w fun e w' => e = .returned (.string ⟨(Lib.repeatL s.data.toList c).toArray⟩) ∧ Below w.heap.size w w' := Any.strings_Repeat Tryz.lays105 Tryz.Builder_Extra_105 s c w hc hlen
end Go.Proofs
