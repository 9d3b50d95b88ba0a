/- Part 2 of what is proved in the last text (packed by a program of mine). -/
import Derived.Laws.Concat
import Derived.Laws.Cover3
import Derived.Laws.Tables
import Derived.Laws.IdiomStrings
import Derived.Test.YtfoffehokhkohaaGreatK01
set_option linter.all false
namespace Go.Proofs.YtfoffehokhkohaaGreat
open Go
theorem ari_run {P : Program} {w : World} (op : BinOp) (k : IntKind) (a b : Int) (t : Nat)
  (h1 : op = .shl → False) (h2 : op = .shr → False) (h3 : op = .quo → False) (h4 : op = .rem → False) (h5 : op = .eql → False) (h6 : op = .neq → False) (h7 : op = .lss → False) (h8 : op = .leq → False) (h9 : op = .gtr → False) (h10 : op = .geq → False) :
  (binOp op t (.int k a) (.int k b)).run P w = .ok (.int k (ari op k a b)) w := by
 cases op <;> simp_all [binOp, Op.intArith, Op.intDiv, Op.intBits, ari]
theorem wrap_id {n : Int} (h : inI n) : IntKind.i64.wrap n = n := by
 unfold inI at h
 simp [IntKind.wrap, IntKind.bits, IntKind.signed]
 omega
theorem size_mk (l : List UInt8) : (ByteArray.mk l.toArray).size = l.length := rfl
def flatGo (P : Program) (F : Nat → Option (List FK)) : List Field → Nat → Option (List FK)
 | [], _ => some []
 | f :: fs, off => if f.name = "_" ∨ f.offset ≠ off then none else match F f.type, (P.info? f.type).map (·.size) with
  | some k, some s => if s = k.length then (flatGo P F fs (off + s)).map (k ++ ·) else none
  | _, _ => none
def flatN (P : Program) : Nat → Nat → Option (List FK)
 | 0, _ => none
 | d + 1, t => match P.underlying t with
  | some (.int _) => some [.int]
  | some .bool => some [.bool]
  | some .string => some [.str]
  | some (.struct fs) => if P.stoodInHeld t then none else flatGo P (flatN P d) fs.toList 0
  | _ => none
def flatV (P : Program) (t : Nat) (cs : List Value) : Value :=
 match P.underlying t with
 | some (.struct _) => .agg cs.toArray
 | _ => cs.headD undef
theorem eqB_den {x y : SV} {b : Th Bool} (h : eqB x y = some b) (bs : List Base) : ∃ m n, x.den bs = .bool m ∧ y.den bs = .bool n ∧ b () = (m == n) := by
 unfold eqB at h
 split at h <;> simp only [Option.some.injEq, reduceCtorEq] at h <;> subst h <;> refine ⟨_, _, by simp only [SV.den]; rfl, by simp only [SV.den]; rfl, ?_⟩ <;> simp
theorem eqSV_den {k : FK} {x y : SV} {b : Th Bool} (h : eqSV k x y = some b) (bs : List Base) :
  (k = .int ∧ ∃ k m n, x.den bs = .int k m ∧ y.den bs = .int k n ∧ b () = (m == n)) ∨ (k = .bool ∧ ∃ m n, x.den bs = .bool m ∧ y.den bs = .bool n ∧ b () = (m == n)) ∨
  (k = .str ∧ ∃ m n : List UInt8, x.den bs = .string ⟨m.toArray⟩ ∧ y.den bs = .string ⟨n.toArray⟩ ∧ b () = (m == n)) := by
 unfold eqSV at h
 cases k with
 | int =>
  dsimp only at h
  split at h
  ·rename_i k a k' b'
   split at h
   ·rename_i hk
    have : k = k' := by simpa using hk
    subst this
    cases h
    exact .inl ⟨rfl, k, _, _, by simp [SV.den], by simp [SV.den], rfl⟩
   ·cases h
  ·cases h
 | bool => exact .inr (.inl ⟨rfl, eqB_den h bs⟩)
 | str =>
  dsimp only at h
  split at h
  ·cases h; exact .inr (.inr ⟨rfl, _, _, by simp [SV.den], by simp [SV.den], rfl⟩)
  ·cases h
theorem eqSVs_length {ks : List FK} {l m : List SV} {b : Th Bool} (h : eqSVs ks l m = some b) : l.length = ks.length ∧ m.length = ks.length := by
 induction ks generalizing l m b with
 | nil => cases l <;> cases m <;> simp_all [eqSVs]
 | cons k ks ih => cases l <;> cases m <;> simp only [eqSVs, reduceCtorEq] at h
                   split at h
                   ·rename_i hb
                    have := ih hb
                    simp [this.1, this.2]
                   ·cases h
theorem eqSVs_app {ks ks' : List FK} {l m : List SV} {b : Th Bool} (h : eqSVs (ks ++ ks') l m = some b) :
  ∃ l1 l2 m1 m2 b1 b2, l = l1 ++ l2 ∧ m = m1 ++ m2 ∧ eqSVs ks l1 m1 = some b1 ∧ eqSVs ks' l2 m2 = some b2 ∧ b () = (b1 () && b2 ()) := by
 induction ks generalizing l m b with
 | nil => exact ⟨[], l, [], m, _, b, rfl, rfl, rfl, h, by simp⟩
 | cons k ks ih =>
  cases l <;> cases m <;> simp only [List.cons_append, eqSVs, reduceCtorEq] at h
  rename_i x l y m
  split at h
  ·rename_i a c ha hc
   cases h
   obtain ⟨l1, l2, m1, m2, b1, b2, rfl, rfl, h1, h2, h3⟩ := ih hc
   exact ⟨x :: l1, l2, y :: m1, m2, _, b2, rfl, rfl, by simp [eqSVs, ha, h1]; rfl, h2, by simp [h3, Bool.and_assoc]⟩
  ·cases h
theorem flat_fields {P : Program} {w : World} {D : Nat} {bs : List Base} {F : Nat → Option (List FK)} {d : Nat}
  (IH : ∀ t ks, flatN P d t = some ks → ∀ (l m : List SV) (b : Th Bool), eqSVs ks l m = some b → (Op.equalIn (D + d) t (flatV P t (SV.denL bs l)) (flatV P t (SV.denL bs m))).run P w = .ok (b ()) w) :
  ∀ (fs : List Field) (off : Nat) (ks : List FK), flatGo P (flatN P d) fs off = some ks → ∀ (pl pm l m : List SV) (b : Th Bool), pl.length = off → pm.length = off → eqSVs ks l m = some b →
  (Op.eqFields (D + d) (SV.denL bs (pl ++ l)).toArray (SV.denL bs (pm ++ m)).toArray fs).run P w = .ok (b ()) w
 | [], off, ks, h, pl, pm, l, m, b, hp, hq, hb => by
  simp only [flatGo, Option.some.injEq] at h
  subst h
  cases l <;> cases m <;> simp only [eqSVs, reduceCtorEq] at hb
  cases hb
  simp [Op.eqFields]
 | f :: fs, off, ks, h, pl, pm, l, m, b, hp, hq, hb => by
  simp only [flatGo] at h
  split at h
  ·cases h
  rename_i hnm
  simp only [not_or, Decidable.not_not] at hnm
  split at h
  ·rename_i k1 s hk1 hs
   split at h
   ·rename_i hsk
    rw [Option.map_eq_some_iff] at h
    obtain ⟨k2, hk2, rfl⟩ := h
    obtain ⟨l1, l2, m1, m2, b1, b2, rfl, rfl, h1, h2, h3⟩ := eqSVs_app hb
    have hlen := eqSVs_length h1
    have i1 := IH f.type k1 hk1 l1 m1 b1 h1
    have i2 := flat_fields (F := F) IH fs (off + s) k2 hk2 (pl ++ l1) (pm ++ m1) l2 m2 b2 (by simp [hp, hlen.1, hsk]) (by simp [hq, hlen.2, hsk]) h2
    have hpart : ∀ (p q r : List SV), p.length = off → q.length = s → (part f.type (SV.denL bs (p ++ (q ++ r))).toArray f.offset).run P w = .ok (flatV P f.type (SV.denL bs q)) w := by
     intro p q r hpl hql
     have hf : flatN P d f.type = some k1 := hk1
     cases d with
     | zero => simp [flatN] at hf
     | succ d =>
      simp only [flatN] at hf
      rw [Option.map_eq_some_iff] at hs
      obtain ⟨inf, hinf, hsz⟩ := hs
      have scal : ∀ dd, P.underlying f.type = some dd → notAgg dd = true → k1.length = 1 → (∀ gs, dd ≠ .struct gs) → (part f.type (SV.denL bs (p ++ (q ++ r))).toArray f.offset).run P w = .ok (flatV P f.type (SV.denL bs q)) w := by
       intro dd hdd hna hk hns
       have hq1 : q.length = 1 := by omega
       match q, hq1 with
       | [x], _ =>
        have hx : (SV.denL bs (p ++ x :: r))[f.offset]? = some (x.den bs) := by
         rw [denL_map, hnm.2]
         simp [← hpl]
        have hv : flatV P f.type (SV.denL bs [x]) = x.den bs := by
         unfold flatV; rw [hdd]; cases dd <;> simp_all [SV.denL]
        rw [hv]
        simp only [part, Sem.run_bind, run_isAgg hdd, hna, Bool.not_true, Result.andThen_ok, Bool.false_eq_true, if_false]
        simp [hx]
      split at hf
      ·rename_i k hu; cases hf; exact scal _ hu rfl rfl (by simp)
      ·rename_i hu; cases hf; exact scal _ hu rfl rfl (by simp)
      ·rename_i hu; cases hf; exact scal _ hu rfl rfl (by simp)
      ·rename_i gs hu
       have hv : flatV P f.type (SV.denL bs q) = .agg (SV.denL bs q).toArray := by unfold flatV; rw [hu]
       rw [hv]
       simp only [part, Sem.run_bind, run_isAgg hu, notAgg, Bool.not_false, Result.andThen_ok, if_true, sizeOf, typeInfo, run_program, hinf, Sem.run_pure]
       congr 3
       rw [hsz, hnm.2, denL_map, denL_map, List.extract_toArray, List.extract_eq_take_drop]
       simp [← hpl, ← hql, List.map_append]
      ·cases hf
    simp only [Op.eqFields]
    rw [if_pos hnm.1]
    simp only [Sem.run_bind, hpart pl l1 l2 hp (by omega), hpart pm m1 m2 hq (by omega), Result.andThen_ok, i1]
    cases hb1 : b1 () with
    | true => simp only [Bool.not_true, Bool.false_eq_true, if_false]; rw [h3, hb1, Bool.true_and]; simpa [List.append_assoc] using i2
    | false => simp [h3, hb1]
   ·cases h
  ·cases h
theorem flat_eq {P : Program} {w : World} (D : Nat) (bs : List Base) : ∀ (d t : Nat) (ks : List FK), flatN P d t = some ks → ∀ (l m : List SV) (b : Th Bool), eqSVs ks l m = some b →
  (Op.equalIn (D + d) t (flatV P t (SV.denL bs l)) (flatV P t (SV.denL bs m))).run P w = .ok (b ()) w
 | 0, _, _, h, _, _, _, _ => by simp [flatN] at h
 | d + 1, t, ks, h, l, m, b, hb => by
  simp only [flatN] at h
  have one : ∀ (dd : TypeDesc) (k : FK), P.underlying t = some dd → (∀ gs, dd ≠ .struct gs) → ks = [k] → ∃ x y b1, l = [x] ∧ m = [y] ∧ eqSV k x y = some b1 ∧ b () = b1 () ∧ flatV P t (SV.denL bs l) = x.den bs ∧ flatV P t (SV.denL bs m) = y.den bs := by
   intro dd k hu hns hk
   subst hk
   match l, m, hb with
   | [x], [y], hb =>
    simp only [eqSVs] at hb
    split at hb
    ·rename_i a c ha hc
     simp at hc
     cases hb
     refine ⟨x, y, a, rfl, rfl, ha, by simp [← hc], ?_, ?_⟩ <;> unfold flatV <;> rw [hu] <;> cases dd <;> simp_all [SV.denL]
    ·cases hb
   | [], _, hb => simp [eqSVs] at hb
   | _ :: _ :: _, [], hb => simp [eqSVs] at hb
   | [_], [], hb => simp [eqSVs] at hb
   | _ :: _ :: _, [_], hb => simp [eqSVs] at hb
   | [_], _ :: _ :: _, hb => simp [eqSVs] at hb
   | _ :: _ :: _, _ :: _ :: _, hb => simp [eqSVs] at hb
  split at h
  ·rename_i k hu
   cases h
   obtain ⟨x, y, b1, rfl, rfl, h1, h2, h3, h4⟩ := one _ _ hu (by simp) rfl
   rw [h3, h4, h2]
   rcases eqSV_den h1 bs with ⟨_, k', p, q, e1, e2, e3⟩ | ⟨hk, _⟩ | ⟨hk, _⟩
   ·rw [e1, e2, e3]; exact run_equalIn_int w (D + d) t _ _ _ _ hu
   ·cases hk
   ·cases hk
  ·rename_i hu
   cases h
   obtain ⟨x, y, b1, rfl, rfl, h1, h2, h3, h4⟩ := one _ _ hu (by simp) rfl
   rw [h3, h4, h2]
   rcases eqSV_den h1 bs with ⟨hk, _⟩ | ⟨_, p, q, e1, e2, e3⟩ | ⟨hk, _⟩
   ·cases hk
   ·rw [e1, e2, e3]; exact run_equalIn_bool' w (D + d) t _ _ hu
   ·cases hk
  ·rename_i hu
   cases h
   obtain ⟨x, y, b1, rfl, rfl, h1, h2, h3, h4⟩ := one _ _ hu (by simp) rfl
   rw [h3, h4, h2]
   rcases eqSV_den h1 bs with ⟨hk, _⟩ | ⟨hk, _⟩ | ⟨_, p, q, e1, e2, e3⟩
   ·cases hk
   ·cases hk
   ·rw [e1, e2, e3]
    have := run_equalIn_string (P := P) w (D + d) t ⟨p.toArray⟩ ⟨q.toArray⟩ hu
    rw [ByteArray.toList_mk, ByteArray.toList_mk] at this
    exact this
  ·rename_i fs hu
   split at h
   ·cases h
   rename_i hst
   have hfo : P.fieldsOf t = fs := by simp [Program.fieldsOf, hu]
   have := flat_fields (w := w) (D := D) (bs := bs) (F := flatN P d) (fun t ks ht l m b hb => flat_eq D bs d t ks ht l m b hb) fs.toList 0 ks h [] [] l m b rfl rfl hb
   have e1 : flatV P t (SV.denL bs l) = .agg (SV.denL bs l).toArray := by unfold flatV; rw [hu]
   have e2 : flatV P t (SV.denL bs m) = .agg (SV.denL bs m).toArray := by unfold flatV; rw [hu]
   rw [e1, e2]
   show (Op.equalIn ((D + d) + 1) t _ _).run P w = _
   rw [run_equalIn_struct w (D + d) t _ _ (by rw [hfo]; exact hu) (by simpa using hst), hfo]
   simpa using this
  ·cases h
def EkOk (P : Program) (t : Nat) : EqK → Prop
 | .bool => P.underlying t = some .bool
 | .ptr => ∃ e, P.underlying t = some (.pointer e)
 | .slice => ∃ e, P.underlying t = some (.slice e)
 | .func => ∃ a b c, P.underlying t = some (.func a b c)
 | .flat ks => (∃ d, d ≤ 9000 ∧ flatN P d t = some ks) ∧ (∃ fs, P.underlying t = some (.struct fs)) ∧ P.eqGuardType P.depth t = false
 | .no => True
def eqOp (neg : Bool) (t : Nat) (x y : Operand) (a b : Value) : Sem Value := do
 eqGuard (if neg then .neq else .eql) t x y a b
 binOp (if neg then .neq else .eql) t a b
theorem binOp_eql_agg (t : Nat) (a b : Array Value) : binOp .eql t (.agg a) (.agg b) = (do pure (.bool (← Op.equal t (.agg a) (.agg b)))) := rfl
theorem binOp_neq_agg (t : Nat) (a b : Array Value) : binOp .neq t (.agg a) (.agg b) = (do pure (.bool (!(← Op.equal t (.agg a) (.agg b))))) := rfl
theorem op_equal (t : Nat) (a b : Value) : Op.equal t a b = Op.equalIn 10000 t a b := rfl
theorem run_eqGuard_flat {P : Program} {w : World} (neg : Bool) (t : Nat) (x y : Operand) (a b : Array Value) (h : P.eqGuardType P.depth t = false) :
  (eqGuard (if neg then .neq else .eql) t x y (.agg a) (.agg b)).run P w = .ok () w := by
 cases neg <;> simp [eqGuard, h]
theorem eqOp_of {P : Program} {w : World} {t : Nat} {ox oy : Operand} {a b : Value} {r : Bool} (neg : Bool) (g : ∀ op, eqGuard op t ox oy a b = pure ()) (e1 : binOp .eql t a b = (do pure (.bool (← Op.equal t a b))))
  (e2 : binOp .neq t a b = (do pure (.bool (!(← Op.equal t a b))))) (h : ∀ d, (Op.equalIn (d + 1) t a b).run P w = .ok r w) : (eqOp neg t ox oy a b).run P w = .ok (.bool (if neg then !r else r)) w := by
 have h' : (Op.equal t a b).run P w = .ok r w := h 9999
 unfold eqOp
 cases neg
 ·simp only [Bool.false_eq_true, if_false, g, e1, Sem.run_bind, Sem.run_pure, Result.andThen_ok, h']
 ·simp only [if_true, g, e2, Sem.run_bind, Sem.run_pure, Result.andThen_ok, h']
theorem litSV_den (neg b : Bool) (bs : List Base) : (litSV neg b).den bs = .bool (if neg then !b else b) := by cases neg <;> cases b <;> rfl
theorem notSV_den (neg : Bool) (b : Th Bool) (bs : List Base) : (notSV neg b).den bs = .bool (if neg then !b () else b ()) := by cases neg <;> simp [notSV, SV.den]
theorem sEq_ok {Γ : Ctx} {hp : List Ch} {w : World} {neg : Bool} {ek : EqK} {x y : SV} {K : KV} (h : sEq neg ek hp x y K) (hd : DenH Γ hp w) {t : Nat} (he : EkOk Γ.P t ek) (ox oy : Operand) :
  RunP Γ hp (eqOp neg t ox oy (x.den (bases hp)) (y.den (bases hp))) K := by
 unfold sEq at h
 split at h
 ·split at h
  ·rename_i b hb
   obtain ⟨m, n, h1, h2, h3⟩ := eqB_den hb (bases hp)
   refine RunP.same (fun w => ?_) h
   have hu : Γ.P.underlying t = some .bool := he
   rw [notSV_den, h1, h2, h3]
   cases neg <;> simp [eqOp, eqGuard_at_bool, run_eql_bool _ _ _ _ hu, run_neq_bool _ _ _ _ hu]
  ·exact h.elim
 ·rename_i ks l m
  split at h
  ·rename_i b hb
   obtain ⟨⟨d, hd9, hf⟩, ⟨fs, hfs⟩, hg⟩ := he
   refine RunP.same (fun w => ?_) h
   have hr := flat_eq (w := w) (10000 - d) (bases hp) d t ks hf l m b hb
   rw [show 10000 - d + d = 10000 by omega] at hr
   have e1 : flatV Γ.P t (SV.denL (bases hp) l) = .agg (SV.denL (bases hp) l).toArray := by unfold flatV; rw [hfs]
   have e2 : flatV Γ.P t (SV.denL (bases hp) m) = .agg (SV.denL (bases hp) m).toArray := by unfold flatV; rw [hfs]
   rw [e1, e2] at hr
   rw [notSV_den]
   simp only [SV.den]
   unfold eqOp
   rw [Sem.run_bind, run_eqGuard_flat neg t ox oy _ _ hg]
   simp only [Result.andThen_ok]
   cases neg
   ·simp only [Bool.false_eq_true, if_false, binOp_eql_agg, op_equal, Sem.run_bind, hr, Result.andThen_ok, Sem.run_pure]
   ·simp only [if_true, binOp_neq_agg, op_equal, Sem.run_bind, hr, Result.andThen_ok, Sem.run_pure]
  ·exact h.elim
 ·obtain ⟨e, hu⟩ := he
  refine RunP.same (fun w => ?_) h
  rw [litSV_den]
  simp only [SV.den]
  exact eqOp_of neg (fun op => eqGuard_at_pointer ..) rfl rfl (by simp [SV.den, Op.equalIn, run_underlying hu])
 ·obtain ⟨e, hu⟩ := he
  refine RunP.same (fun w => ?_) h
  rw [litSV_den]
  simp only [SV.den]
  exact eqOp_of neg (fun op => eqGuard_at_pointer ..) rfl rfl (by simp [SV.den, Op.equalIn, run_underlying hu])
 ·rename_i hh off
  obtain ⟨e, hu⟩ := he
  split at h
  ·rename_i b ty l ex hc
   obtain ⟨hb, _⟩ := base_at hc
   refine RunP.same (fun w => ?_) h
   rw [litSV_den]
   simp only [SV.den, hb, Ch.base, Option.map_some]
   exact eqOp_of neg (fun op => eqGuard_at_pointer ..) rfl rfl (fun d => by simp [Op.equalIn, run_underlying hu])
  ·exact h.elim
 ·rename_i a
  obtain ⟨e, hu⟩ := he
  refine RunP.same (fun w => ?_) h
  rw [notSV_den]
  simp only [SV.den]
  exact eqOp_of neg (fun op => eqGuard_at_pointer ..) rfl rfl (fun d => by cases a () <;> simp [Op.equalIn, run_underlying hu])
 ·obtain ⟨e, hu⟩ := he
  refine RunP.same (fun w => ?_) h
  rw [litSV_den]
  simp only [SV.den]
  exact eqOp_of neg (fun op => eqGuard_at_slice ..) rfl rfl (fun d => by simp [Op.equalIn, run_underlying hu])
 ·rename_i hh a off len ext
  obtain ⟨e, hu⟩ := he
  refine RunP.same (fun w => ?_) h
  rw [notSV_den]
  have hx : ∃ b n c, (SV.sl hh a off len ext).den (bases hp) = .slice b n c := ⟨_, _, _, by simp only [SV.den]; rfl⟩
  obtain ⟨b, n, c, hx⟩ := hx
  rw [hx]
  have hy : SV.nils.den (bases hp) = .slice none 0 0 := by simp only [SV.den]
  rw [hy]
  exact eqOp_of neg (fun op => eqGuard_at_slice ..) rfl rfl (fun d => by cases b <;> simp [Op.equalIn, run_underlying hu])
 ·obtain ⟨a, b, c, hu⟩ := he
  refine RunP.same (fun w => ?_) h
  rw [litSV_den]
  simp only [SV.den]
  exact eqOp_of neg (fun op => eqGuard_at_func ..) rfl rfl (fun d => by simp [Op.equalIn, run_underlying hu])
 ·obtain ⟨a, b, c, hu⟩ := he
  refine RunP.same (fun w => ?_) h
  rw [litSV_den]
  simp only [SV.den]
  exact eqOp_of neg (fun op => eqGuard_at_nilFunc ..) rfl rfl (fun d => by simp [Op.equalIn, run_underlying hu])
 ·exact h.elim
theorem sBin_ok {Γ : Ctx} {hp : List Ch} {w : World} {op : BinOp} {ek : EqK} {x y : SV} {K : KV} (h : sBin op ek hp x y K) (hd : DenH Γ hp w) {t : Nat} (he : EkOk Γ.P t ek) (ox oy : Operand) :
  RunP Γ hp (do eqGuard op t ox oy (x.den (bases hp)) (y.den (bases hp)); binOp op t (x.den (bases hp)) (y.den (bases hp))) K := by
 unfold sBin at h
 split at h
 ·rename_i k a _ b
  refine RunP.same (fun w => ?_) h.r
  have hb := h.l
  simp only [SV.den, ari]
  simp [eqGuard, binOp, Op.shift, Int.not_lt.2 hb]
 ·rename_i k a _ b
  refine RunP.same (fun w => ?_) h.r
  have hb := h.l
  simp only [SV.den, ari]
  simp [eqGuard, binOp, Op.shift, Int.not_lt.2 hb]
 ·rename_i op k a k' b hn1 hn2
  split at h
  ·rename_i hk
   have : k = k' := by simpa using hk
   subst this
   split at h
   ·rcases h with ⟨h1, h2⟩ | h2
    ·refine RunP.same (fun w => ?_) h2
     simp [SV.den, eqGuard_at_int, binOp, Op.intArith, wrap_id h1]
    ·refine RunP.same (fun w => ?_) h2
     simp [SV.den, eqGuard_at_int, binOp, Op.intArith]
   ·refine RunP.same (fun w => ?_) h.r
    simp [SV.den, eqGuard_at_int, binOp, Op.intArith, wrap_id h.l]
   ·refine RunP.same (fun w => ?_) h.r
    simp [SV.den, eqGuard_at_int, binOp, Op.intArith, wrap_id h.l]
   ·refine RunP.same (fun w => ?_) h.r
    have := h.l
    simp [SV.den, eqGuard_at_int, binOp, Op.intDiv, this.1, wrap_id this.2]
   ·refine RunP.same (fun w => ?_) h.r
    have := h.l
    simp [SV.den, eqGuard_at_int, binOp, Op.intDiv, this, ari]
   ·refine RunP.same (fun w => ?_) h.r
    have := h.l
    simp [SV.den, eqGuard_at_int, binOp, Op.intDiv, this]
   ·exact RunP.same (fun w => by simp [SV.den, eqGuard_at_int, binOp, Op.intCmp]) h
   ·exact RunP.same (fun w => by simp [SV.den, eqGuard_at_int, binOp, Op.intCmp]) h
   ·exact RunP.same (fun w => by simp [SV.den, eqGuard_at_int, binOp, Op.intCmp]) h
   ·exact RunP.same (fun w => by simp [SV.den, eqGuard_at_int, binOp, Op.intCmp]) h
   ·exact RunP.same (fun w => by simp [SV.den, eqGuard_at_int, binOp, Op.intCmp]) h
   ·exact RunP.same (fun w => by simp [SV.den, eqGuard_at_int, binOp, Op.intCmp]) h
   refine RunP.same (fun w => ?_) h
   simp only [SV.den, eqGuard_at_int, Sem.run_bind, Sem.run_pure, Result.andThen_ok]
   apply ari_run <;> assumption
  ·exact h.elim
 ·rename_i a b
  refine RunP.same (fun w => ?_) h.r
  have := h.l
  have hsz : ((ByteArray.mk (a ()).toArray).size + (ByteArray.mk (b ()).toArray).size) ≤ 9223372036854775807 := by simp only [size_mk]; omega
  simp only [SV.den, eqGuard_at_string]
  simp only [Sem.run_bind, Sem.run_pure, Result.andThen_ok, binOp_string_add, run_string_add_sum w _ _ hsz, ByteArray.mk_append_mk]
 ·exact RunP.same (fun w => by simp [SV.den, eqGuard_at_string, binOp, Op.stringOp, ByteArray.toList_mk]) h
 ·exact RunP.same (fun w => by simp [SV.den, eqGuard_at_string, binOp, Op.stringOp, ByteArray.toList_mk]) h
 ·exact RunP.same (fun w => by simp [SV.den, eqGuard_at_string, binOp, Op.stringOp, ByteArray.toList_mk]) h
 ·exact RunP.same (fun w => by simp [SV.den, eqGuard_at_string, binOp, Op.stringOp, ByteArray.toList_mk]) h
 ·exact RunP.same (fun w => by simp [SV.den, eqGuard_at_string, binOp, Op.stringOp, ByteArray.toList_mk]) h
 ·exact RunP.same (fun w => by simp [SV.den, eqGuard_at_string, binOp, Op.stringOp, ByteArray.toList_mk]) h
 ·exact sEq_ok h hd he ox oy
 ·exact sEq_ok h hd he ox oy
 ·exact h.elim
theorem sUn_ok {Γ : Ctx} {hp : List Ch} {w : World} {op : UnOp} {x : SV} {K : KV} (h : sUn op hp x K) (hd : DenH Γ hp w) : RunP Γ hp (Op.unary op (x.den (bases hp))) K := by
 unfold sUn at h
 split at h
 ·exact RunP.same (fun w => by simp [SV.den, Op.unary]) h
 ·exact RunP.same (fun w => by simp [SV.den, Op.unary]) h
 ·exact RunP.same (fun w => by simp [SV.den, Op.unary]) h
 ·exact RunP.same (fun w => by simp [SV.den, Op.unary, Op.intArith, ari]) h
 ·rename_i k a
  refine RunP.same (fun w => ?_) h
  simp only [SV.den, Op.unary, Op.intBits, ari]
  cases k.signed <;> simp
 ·exact h.elim
def BndIs (x : Option SV) (dflt : Th Nat) (n : Th Int) : Prop :=
 match x with
 | none => n () = (dflt () : Int)
 | some (.int _ m) => n = m
 | some _ => False
theorem bnd_is {x : Option SV} {dflt : Th Nat} {K : Th Int → Prop} (h : bnd x dflt K) : ∃ n, BndIs x dflt n ∧ K n := by
 unfold bnd at h
 split at h
 ·exact ⟨fun _ => toI (dflt ()), rfl, h⟩
 ·exact ⟨_, rfl, h⟩
 ·exact h.elim
theorem run_bounds {P : Program} {w : World} {bs : List Base} (isS : Bool) (len cap : Nat) {lo hi mx : Option SV} {l u m : Th Int} (hl : BndIs lo (fun _ => 0) l) (hu : BndIs hi (fun _ => len) u) (hm : BndIs mx (fun _ => cap) m)
  (hx : ¬ (hi = none ∧ mx.isSome = true)) (h0 : 0 ≤ l ()) (h1 : l () ≤ u ()) (h2 : u () ≤ m ()) (h3 : m () ≤ (cap : Int)) :
  (Instr.sliceBounds isS len cap (lo.map (SV.den bs)) (hi.map (SV.den bs)) (mx.map (SV.den bs))).run P w = .ok ((l ()).toNat, (u ()).toNat, (m ()).toNat) w := by
 have em : ((m ()).toNat : Int) = m () := Int.toNat_of_nonneg (by omega)
 have eu : ((u ()).toNat : Int) = u () := Int.toNat_of_nonneg (by omega)
 have step1 : ∀ code, (match mx.map (SV.den bs) with
   | some v => Instr.sliceBound v cap code
   | none => pure cap).run P w = .ok (m ()).toNat w := by
  intro code
  cases mx with
  | none => simp only [Option.map_none, Sem.run_pure]; have : m () = (cap : Int) := hm; rw [this]; rfl
  | some v => cases v <;> simp only [BndIs] at hm
              subst hm
              simp only [Option.map_some, SV.den]
              exact run_sliceBound w _ _ _ _ (by omega) h3
 have step2 : ∀ c1 c2 : BoundsCode, (match hi.map (SV.den bs), mx.map (SV.den bs) with
   | some v, some _ => Instr.sliceBound v (m ()).toNat .slice3B
   | some v, none => Instr.sliceBound v (m ()).toNat (if isS then .sliceAcap else .sliceAlen)
   | none, none => pure len
   | none, some _ => stuck "Slice: max without high").run P w = .ok (u ()).toNat w := by
  intro c1 c2
  cases hi with
  | none => cases mx with
   | none => simp only [Option.map_none, Sem.run_pure]; have : u () = (len : Int) := hu; rw [this]; rfl
   | some v => exact absurd ⟨rfl, rfl⟩ hx
  | some v => cases v <;> simp only [BndIs] at hu
              subst hu
              cases mx <;> simp only [Option.map_some, Option.map_none, SV.den] <;> exact run_sliceBound w _ _ _ _ (by omega) (by omega)
 have step3 : ∀ code, (match lo.map (SV.den bs) with
   | some v => Instr.sliceBound v (u ()).toNat code
   | none => pure 0).run P w = .ok (l ()).toNat w := by
  intro code
  cases lo with
  | none => simp only [Option.map_none, Sem.run_pure]; have : l () = ((0 : Nat) : Int) := hl; rw [this]; rfl
  | some v => cases v <;> simp only [BndIs] at hl
              subst hl
              simp only [Option.map_some, SV.den]
              exact run_sliceBound w _ _ _ _ h0 (by omega)
 have a1 : ∀ code, ((match mx.map (SV.den bs) with
   | some v => Instr.sliceBound v cap code
   | none => pure cap) : Sem Nat).run P w = .ok (m ()).toNat w := step1
 cases mx with
 | none => cases hi with
  | none => cases lo with
   | none =>
    have h1 := step1 .index; have h2 := step2 .index .index; have h3 := step3 .index
    simp only [Option.map_none, Sem.run_pure, Result.ok.injEq, and_true] at h1 h2 h3
    simp [Instr.sliceBounds, ← h1, ← h2, ← h3]
   | some v =>
    have h1 := step1 .index; have h2 := step2 .index .index; have h3 := step3 .sliceB
    simp only [Option.map_none, Option.map_some, Sem.run_pure, Result.ok.injEq, and_true] at h1 h2 h3
    simp [Instr.sliceBounds, h1, h2, h3]
  | some u => cases lo with
   | none =>
    have h1 := step1 .index; have h2 := step2 .index .index; have h3 := step3 .index
    simp only [Option.map_none, Option.map_some, Sem.run_pure, Result.ok.injEq, and_true] at h1 h2 h3
    simp [Instr.sliceBounds, h1, h2, ← h3]
   | some v =>
    have h1 := step1 .index; have h2 := step2 .index .index; have h3 := step3 .sliceB
    simp only [Option.map_none, Option.map_some, Sem.run_pure, Result.ok.injEq, and_true] at h1 h2 h3
    simp [Instr.sliceBounds, h1, h2, h3]
 | some x => cases hi with
  | none => exact absurd ⟨rfl, rfl⟩ hx
  | some u => cases lo with
   | none =>
    have h1 := step1 (if isS then .slice3Acap else .slice3Alen); have h2 := step2 .index .index; have h3 := step3 .index
    simp only [Option.map_none, Option.map_some, Sem.run_pure, Result.ok.injEq, and_true] at h1 h2 h3
    simp [Instr.sliceBounds, h1, h2, ← h3]
   | some v =>
    have h1 := step1 (if isS then .slice3Acap else .slice3Alen); have h2 := step2 .index .index; have h3 := step3 .slice3C
    simp only [Option.map_none, Option.map_some, Sem.run_pure, Result.ok.injEq, and_true] at h1 h2 h3
    simp [Instr.sliceBounds, h1, h2, h3]
end Go.Proofs.YtfoffehokhkohaaGreat
namespace Go.Proofs.YtfoffehokhkohaaGreat
open Go
theorem bnd_hx {hi mx : Option SV} {A : Prop} {B : Prop} (h : (match hi, mx with | none, some _ => A | _, _ => B)) (hA : ¬ A) : ¬ (hi = none ∧ mx.isSome = true) ∧ B := by
 cases hi with
 | none => cases mx with
  | none => exact ⟨by simp, h⟩
  | some v => exact (hA h).elim
 | some v => exact ⟨by simp, h⟩
theorem extract_toArray (l : List UInt8) (i j : Nat) : (ByteArray.mk l.toArray).extract i j = ⟨((l.take j).drop i).toArray⟩ := by
 apply ByteArray.ext
 rw [ByteArray.data_extract]
 show l.toArray.extract i j = _
 rw [List.extract_toArray, List.extract_eq_take_drop, List.drop_take]
theorem sSliceStr_ok {Γ : Ctx} {hp : List Ch} {w : World} {x : SV} {lo hi : Option SV} {K : KV} (h : sSliceStr hp x lo hi K) (hd : DenH Γ hp w) {t : Nat} (ht : Γ.P.underlying t = some .string) :
  RunP Γ hp (Instr.sliceAt t (x.den (bases hp)) (lo.map (SV.den (bases hp))) (hi.map (SV.den (bases hp))) none) K := by
 unfold sSliceStr at h
 split at h
 ·rename_i s
  obtain ⟨l, hl, h⟩ := bnd_is h
  obtain ⟨u, hu, h⟩ := bnd_is h
  obtain ⟨h0, h1, h2⟩ := h.l
  have h2 : _ ≤ (((s ()).length : Nat) : Int) := h2
  refine RunP.same (fun w => ?_) h.r
  have hb := run_bounds (P := Γ.P) (w := w) (bs := bases hp) false (s ()).length (s ()).length (mx := none) (m := fun _ => ((s ()).length : Int)) hl hu rfl (by simp) h0 h1 h2 (Int.le_refl _)
  simp only [Option.map_none] at hb
  simp [Instr.sliceAt, Instr.slice, run_underlying ht, SV.den, size_mk, hb, extract_toArray]
 ·exact h.elim
theorem sl_den (bs : List Base) (h : Nat) (a : Th (Option Addr)) (off len ext : Th Nat) : (SV.sl h a off len ext).den bs = .slice (slAddr bs h a off len ext) (len ()) (len () + ext ()) := by
 simp [slAddr, SV.den]
theorem slAddr_pos {bs : List Base} {h : Nat} {a : Th (Option Addr)} {off len ext : Th Nat} (hp : len () + ext () ≠ 0) : slAddr bs h a off len ext = (baseA bs h).map fun a => ⟨a.block, a.off + off () * baseK bs h, none⟩ := by
 simp only [slAddr, SV.den, if_neg hp]
theorem sSlice_ok {Γ : Ctx} {hp : List Ch} {w : World} {x : SV} {k : Nat} {lo hi mx : Option SV} {K : KV} (h : sSlice k hp x lo hi mx K) (hd : DenH Γ hp w) {t e bytes : Nat} {z : List Value}
  (ht : Γ.P.underlying t = some (.slice e)) (he : TI Γ.P e k bytes z) :
  RunP Γ hp (Instr.sliceAt t (x.den (bases hp)) (lo.map (SV.den (bases hp))) (hi.map (SV.den (bases hp))) (mx.map (SV.den (bases hp)))) K := by
 unfold sSlice at h
 split at h
 ·rename_i hh a off len ext
  split at h
  ·rename_i c hc
   split at h
   ·rename_i hk
    have hk := Nat.eq_of_beq_eq_true hk
    obtain ⟨_, hbk⟩ := base_at hc
    obtain ⟨l, hl, h⟩ := bnd_is h
    obtain ⟨m, hm, h⟩ := bnd_is h
    obtain ⟨hx, h⟩ := bnd_hx h (fun h => h)
    obtain ⟨u, hu, h⟩ := bnd_is h
    obtain ⟨h0, h1, h2, h3⟩ := h.l
    have h3 : _ ≤ ((len () + ext () : Nat) : Int) := h3
    refine RunP.same (fun w => ?_) (h.r (if (m ()).toNat = (l ()).toNat then slAddr (bases hp) hh a off len ext else (slAddr (bases hp) hh a off len ext).map (·.add ((l ()).toNat * k))))
    have hb := run_bounds (P := Γ.P) (w := w) (bs := bases hp) true (len ()) (len () + ext ()) hl hu hm hx h0 h1 h2 h3
    rw [sl_den]
    simp only [Instr.sliceAt, Instr.slice, run_underlying ht, Sem.run_bind, Result.andThen_ok, hb, he.sizeOf, Sem.run_pure]
    congr 1
    simp only [SV.den]
    have e1 : (u ()).toNat - (l ()).toNat + ((m ()).toNat - (u ()).toNat) = (m ()).toNat - (l ()).toNat := by omega
    rw [e1]
    congr 1
    by_cases hml : (m ()).toNat = (l ()).toNat
    ·simp [hml]
    ·have hpos : len () + ext () ≠ 0 := by omega
     rw [if_neg hml, if_neg (by omega), slAddr_pos hpos, hbk, hk, Option.map_map]
     congr 1
     funext a
     simp [add_none, Nat.add_mul, Nat.add_assoc]
   ·exact h.elim
  ·exact h.elim
 ·obtain ⟨l, hl, h⟩ := bnd_is h
  obtain ⟨m, hm, h⟩ := bnd_is h
  obtain ⟨hx, h⟩ := bnd_hx h (fun h => h)
  obtain ⟨u, hu, h⟩ := bnd_is h
  obtain ⟨h0, h1, h2⟩ := h.l
  refine RunP.same (fun w => ?_) h.r
  have hb := run_bounds (P := Γ.P) (w := w) (bs := bases hp) true 0 0 hl hu hm hx (by omega) (by omega) (by omega) (by omega)
  rw [h0, h1, h2] at hb
  simp only [SV.den]
  simp only [Instr.sliceAt, Instr.slice, run_underlying ht, Sem.run_bind, Result.andThen_ok, hb, he.sizeOf, Sem.run_pure]
  rfl
 ·exact h.elim
theorem sSliceA_ok {Γ : Ctx} {hp : List Ch} {w : World} {x : SV} {N k : Nat} {lo hi mx : Option SV} {K : KV} (h : sSliceA N k hp x lo hi mx K) (hd : DenH Γ hp w) {t e bytes : Nat} {z : List Value}
  (ht : Γ.P.underlying t = some (.array N e)) (he : TI Γ.P e k bytes z) :
  RunP Γ hp (Instr.sliceAt t (x.den (bases hp)) (lo.map (SV.den (bases hp))) (hi.map (SV.den (bases hp))) (mx.map (SV.den (bases hp)))) K := by
 unfold sSliceA at h
 split at h
 ·rename_i hh i
  split at h
  ·rename_i ad n sp cs ex hc
   split at h
   ·rename_i hk
    have hk := Nat.eq_of_beq_eq_true hk
    obtain ⟨hba, hbk⟩ := base_at hc
    obtain ⟨l, hl, h⟩ := bnd_is h
    obtain ⟨m, hm, h⟩ := bnd_is h
    obtain ⟨hx, h⟩ := bnd_hx h (fun h => h)
    obtain ⟨u, hu, h⟩ := bnd_is h
    obtain ⟨h0, h1, h2, h3, h4⟩ := h.l
    have h3 : _ ≤ ((N : Nat) : Int) := h3
    refine RunP.same (fun w => ?_) (h.r (if (m ()).toNat = (l ()).toNat then some ⟨ad.block, ad.off + i () * k, none⟩ else some ⟨ad.block, ad.off + i () * k + (l ()).toNat * k, none⟩))
    have hb := run_bounds (P := Γ.P) (w := w) (bs := bases hp) false N N hl hu hm hx h0 h1 h2 h3
    simp only [SV.den, hba, hbk, Ch.base, Option.map_some, hk, Nat.add_zero]
    simp only [Instr.sliceAt, run_underlying ht, Sem.run_bind, Result.andThen_ok, hb, he.sizeOf, Sem.run_pure, Instr.sureAddr]
    congr 1
    have e1 : (u ()).toNat - (l ()).toNat + ((m ()).toNat - (u ()).toNat) = (m ()).toNat - (l ()).toNat := by omega
    rw [e1]
    congr 1
    by_cases hml : (m ()).toNat = (l ()).toNat
    ·simp [hml]
    ·rw [if_neg hml, if_neg (by omega)]
     simp [add_none, Nat.add_mul, Nat.add_assoc]
   ·exact h.elim
  ·exact h.elim
 ·exact h.elim
theorem sIaddr_ok {Γ : Ctx} {hp : List Ch} {w : World} {x i : SV} {k : Nat} {K : KV} (h : sIaddr k hp x i K) (hd : DenH Γ hp w) {t e bytes : Nat} {z : List Value}
  (ht : Γ.P.underlying t = some (.slice e)) (he : TI Γ.P e k bytes z) : RunP Γ hp (Instr.indexAt t (x.den (bases hp)) (i.den (bases hp))) K := by
 unfold sIaddr at h
 split at h
 ·rename_i hh a off len ext ki n
  split at h
  ·rename_i a2 N sp cs ex hc
   split at h
   ·rename_i hk
    have hk := Nat.eq_of_beq_eq_true hk
    obtain ⟨hba, hbk⟩ := base_at hc
    rw [nth_eq] at hc
    obtain ⟨S, hS⟩ := hd.at hc
    obtain ⟨h0, h1, h2⟩ := h.l
    have h1 : _ < ((len () : Nat) : Int) := h1
    refine RunP.same (fun w => ?_) h.r
    cases a2 with
    | none => have := hS.2.1; omega
    | some ad =>
     have hpos : len () + ext () ≠ 0 := by omega
     rw [sl_den, slAddr_pos hpos]
     simp only [SV.den, hba, hbk, Ch.base, Option.map_some]
     simp [Instr.indexAt, asIntOf, run_underlying ht, h0, h1, he.sizeOf, add_none, hk, Nat.add_mul, Nat.add_assoc]
   ·exact h.elim
  ·exact h.elim
 ·exact h.elim
theorem sIaddrA_ok {Γ : Ctx} {hp : List Ch} {w : World} {x i : SV} {N k : Nat} {K : KV} (h : sIaddrA N k hp x i K) (hd : DenH Γ hp w) {t e bytes : Nat} {z : List Value}
  (ht : Γ.P.underlying t = some (.array N e)) (he : TI Γ.P e k bytes z) : RunP Γ hp (Instr.indexAt t (x.den (bases hp)) (i.den (bases hp))) K := by
 unfold sIaddrA at h
 split at h
 ·rename_i hh i0 ki n
  split at h
  ·rename_i a2 M sp cs ex hc
   split at h
   ·rename_i hk
    have hk := Nat.eq_of_beq_eq_true hk
    obtain ⟨hba, hbk⟩ := base_at hc
    rw [nth_eq] at hc
    obtain ⟨S, hS⟩ := hd.at hc
    obtain ⟨h0, h1, h2⟩ := h.l
    have h1 : _ < ((N : Nat) : Int) := h1
    refine RunP.same (fun w => ?_) h.r
    cases a2 with
    | none => have := hS.2.1; omega
    | some ad =>
     simp only [SV.den, hba, hbk, Ch.base, Option.map_some]
     simp [Instr.indexAt, asIntOf, run_underlying ht, Instr.sureAddr, h0, h1, he.sizeOf, add_none, hk, Nat.add_mul, Nat.add_assoc]
   ·exact h.elim
  ·exact h.elim
 ·exact h.elim
theorem sIdxStr_ok {Γ : Ctx} {hp : List Ch} {w : World} {x i : SV} {K : KV} (h : sIdxStr hp x i K) (hd : DenH Γ hp w) {t : Nat} (ht : Γ.P.underlying t = some .string) :
  RunP Γ hp (Instr.index t (x.den (bases hp)) (i.den (bases hp))) K := by
 unfold sIdxStr at h
 split at h
 ·rename_i s ki n
  obtain ⟨h0, h1⟩ := h.l
  have h1 : _ < (((s ()).length : Nat) : Int) := h1
  refine RunP.same (fun w => ?_) h.r
  have hlt : (n ()).toNat < (s ()).length := by omega
  have hg : (ByteArray.mk (s ()).toArray)[(n ()).toNat]? = some ((s ()).getD (n ()).toNat 0) := by
   rw [ByteArray.getElem?_lt' _ _ (by rw [size_mk]; exact hlt)]
   congr 1
   show (s ()).toArray[(n ()).toNat] = _
   simp [List.getD, List.getElem?_eq_getElem hlt]
  simp only [SV.den]
  simp [Instr.index, asIntOf, run_underlying ht, h0, hg, toI]
 ·exact h.elim
theorem sLen_ok {Γ : Ctx} {hp : List Ch} {w : World} {x : SV} {str : Bool} {K : KV} (h : sLen str hp x K) (hd : DenH Γ hp w) {t : Nat} (ht : if str then Γ.P.underlying t = some .string else ∃ e, Γ.P.underlying t = some (.slice e)) (ts : Array TypeId) (hts : ts[0]? = some t) (ty : TypeId) :
  RunP Γ hp (Builtin.len_ ts ty #[x.den (bases hp)]) K := by
 unfold sLen at h
 split at h
 ·refine RunP.same (fun w => ?_) h
  obtain ⟨e, ht⟩ := ht
  simp [Builtin.len_, run_underlying ht, SV.den, hts, goInt, toI]
 ·refine RunP.same (fun w => ?_) h
  obtain ⟨e, ht⟩ := ht
  rw [sl_den]
  simp [Builtin.len_, run_underlying ht, SV.den, hts, goInt, toI]
 ·refine RunP.same (fun w => ?_) h
  simp only [if_true] at ht
  simp [Builtin.len_, run_underlying ht, SV.den, hts, size_mk, goInt, toI]
 ·exact h.elim
theorem sCap_ok {Γ : Ctx} {hp : List Ch} {w : World} {x : SV} {K : KV} (h : sCap hp x K) (hd : DenH Γ hp w) {t e : Nat} (ht : Γ.P.underlying t = some (.slice e)) (ts : Array TypeId) (hts : ts[0]? = some t) (ty : TypeId) :
  RunP Γ hp (Builtin.cap_ ts ty #[x.den (bases hp)]) K := by
 unfold sCap at h
 split at h
 ·refine RunP.same (fun w => ?_) h
  simp [Builtin.cap_, run_underlying ht, SV.den, hts, goInt, toI]
 ·refine RunP.same (fun w => ?_) h
  rw [sl_den]
  simp [Builtin.cap_, run_underlying ht, SV.den, hts, goInt, toI]
 ·exact h.elim
theorem sMin_ok {Γ : Ctx} {hp : List Ch} {w : World} {x y : SV} {K : KV} (h : sMin hp x y K) (hd : DenH Γ hp w) (ts : Array TypeId) (ty : TypeId) :
  RunP Γ hp (Builtin.min_ ts ty #[x.den (bases hp), y.den (bases hp)]) K := by
 unfold sMin at h
 split at h
 ·split at h
  ·refine RunP.same (fun w => ?_) h
   simp only [SV.den]
   exact run_min_int2 _ _ _ _ _ _ _
  ·exact h.elim
 ·exact h.elim
theorem sMin3_ok {Γ : Ctx} {hp : List Ch} {w : World} {x y z : SV} {K : KV} (h : sMin3 hp x y z K) (hd : DenH Γ hp w) (ts : Array TypeId) (ty : TypeId) :
  RunP Γ hp (Builtin.min_ ts ty #[x.den (bases hp), y.den (bases hp), z.den (bases hp)]) K := by
 unfold sMin3 at h
 split at h
 ·split at h
  ·refine RunP.same (fun w => ?_) h
   simp [SV.den, Builtin.min_, Builtin.min2]
  ·exact h.elim
 ·exact h.elim
theorem sMax_ok {Γ : Ctx} {hp : List Ch} {w : World} {x y : SV} {K : KV} (h : sMax hp x y K) (hd : DenH Γ hp w) (ts : Array TypeId) (ty : TypeId) :
  RunP Γ hp (Builtin.max_ ts ty #[x.den (bases hp), y.den (bases hp)]) K := by
 unfold sMax at h
 split at h
 ·split at h
  ·refine RunP.same (fun w => ?_) h
   simp only [SV.den]
   exact run_max_int2 _ _ _ _ _ _ _
  ·exact h.elim
 ·exact h.elim
end Go.Proofs.YtfoffehokhkohaaGreat
namespace Go.Proofs.YtfoffehokhkohaaGreat
open Go
theorem cut_vals (c : Col) (off m : Th Nat) : (c.cut off m).vals = (c.vals.drop (off ())).take (m ()) := by
 cases c <;> simp [Col.cut, Col.vals, List.map_take, List.map_drop]
theorem empty_bytes : (ByteArray.mk #[]) = ByteArray.empty := ByteArray.ext rfl
theorem cutCols_eq (off m : Th Nat) (cs : List Col) : cutCols off m cs = cs.map (·.cut off m) := by
 induction cs with
 | nil => rfl
 | cons c cs ih => simp [cutCols, ih]
theorem app_vals {c d e : Col} (h : c.app d = some e) : e.vals = c.vals ++ d.vals := by
 unfold Col.app at h
 split at h <;> (try split at h) <;> (try simp only [Option.some.injEq, reduceCtorEq] at h) <;> (try subst h) <;> simp_all [Col.vals]
theorem map_overC {α β : Type} (f : α → β) (l : List α) (i : Nat) (m : List α) : (overC l i m).map f = overC (l.map f) i (m.map f) := by
 simp [overC]
theorem over_vals {c d e : Col} {i : Th Nat} (h : c.over i d = some e) : e.vals = overC c.vals (i ()) d.vals := by
 unfold Col.over at h
 split at h <;> (try split at h) <;> simp only [Option.some.injEq, reduceCtorEq] at h <;> subst h <;> simp_all [Col.vals, map_overC]
theorem appCols_vals : ∀ {cs ds es : List Col}, appCols cs ds = some es → es.length = cs.length ∧ ds.length = cs.length ∧ ∀ (j : Nat) (c d : Col), cs[j]? = some c → ds[j]? = some d → ∃ e, es[j]? = some e ∧ e.vals = c.vals ++ d.vals
 | [], [], es, h => by simp only [appCols, Option.some.injEq] at h; subst h; simp
 | c :: cs, d :: ds, es, h => by
  simp only [appCols] at h
  split at h
  ·rename_i x r hx hr
   cases h
   obtain ⟨h1, h2, h3⟩ := appCols_vals hr
   refine ⟨by simp [h1], by simp [h2], fun j c' d' hc hd => ?_⟩
   cases j with
   | zero =>
    simp only [List.getElem?_cons_zero, Option.some.injEq] at hc hd ⊢
    subst hc; subst hd
    exact ⟨x, rfl, app_vals hx⟩
   | succ j => simpa using h3 j c' d' (by simpa using hc) (by simpa using hd)
  ·cases h
 | [], _ :: _, _, h => by simp [appCols] at h
 | _ :: _, [], _, h => by simp [appCols] at h
theorem overCols_vals {i : Th Nat} : ∀ {cs ds es : List Col}, overCols i cs ds = some es → es.length = cs.length ∧ ds.length = cs.length ∧ ∀ (j : Nat) (c d : Col), cs[j]? = some c → ds[j]? = some d → ∃ e, es[j]? = some e ∧ e.vals = overC c.vals (i ()) d.vals
 | [], [], es, h => by simp only [overCols, Option.some.injEq] at h; subst h; simp
 | c :: cs, d :: ds, es, h => by
  simp only [overCols] at h
  split at h
  ·rename_i x r hx hr
   cases h
   obtain ⟨h1, h2, h3⟩ := overCols_vals hr
   refine ⟨by simp [h1], by simp [h2], fun j c' d' hc hd => ?_⟩
   cases j with
   | zero =>
    simp only [List.getElem?_cons_zero, Option.some.injEq] at hc hd ⊢
    subst hc; subst hd
    exact ⟨x, rfl, over_vals hx⟩
   | succ j => simpa using h3 j c' d' (by simpa using hc) (by simpa using hd)
  ·cases h
 | [], _ :: _, _, h => by simp [overCols] at h
 | _ :: _, [], _, h => by simp [overCols] at h
theorem flat_ext {cs : List Col} {n : Nat} {l : List Value} (hl : l.length = n * cs.length) (h : ∀ i j c, i < n → cs[j]? = some c → l[i * cs.length + j]? = some ((c.vals[i]?).getD undef)) : flat cs n = l := by
 apply List.ext_getElem?
 intro m
 by_cases hm : m < n * cs.length
 ·have hpos : 0 < cs.length := by
   rcases Nat.eq_zero_or_pos cs.length with h | h
   ·rw [h] at hm; omega
   ·exact h
  have e : m = m / cs.length * cs.length + m % cs.length := by rw [Nat.mul_comm]; exact (Nat.div_add_mod m cs.length).symm
  have hq : m / cs.length < n := Nat.div_lt_of_lt_mul (by rw [Nat.mul_comm]; exact hm)
  have hr : m % cs.length < cs.length := Nat.mod_lt _ hpos
  have h1 := flat_get cs n (m / cs.length) (m % cs.length) cs[m % cs.length] hq (by simp [hr])
  have h2 := h (m / cs.length) (m % cs.length) cs[m % cs.length] hq (by simp [hr])
  rw [← e] at h1 h2
  rw [h1, h2]
 ·rw [List.getElem?_eq_none (by rw [length_flat]; omega), List.getElem?_eq_none (by omega)]
theorem idx_div {i j k : Nat} (h : j < k) : (i * k + j) / k = i ∧ (i * k + j) % k = j := by
 constructor
 ·rw [Nat.mul_comm, Nat.mul_add_div (by omega), Nat.div_eq_of_lt h, Nat.add_zero]
 ·rw [Nat.mul_comm, Nat.mul_add_mod, Nat.mod_eq_of_lt h]
theorem flat_app {cs ds es : List Col} {n m : Nat} (h : appCols cs ds = some es) (hc : ∀ c ∈ cs, c.vals.length = n) (hd : ∀ d ∈ ds, d.vals.length = m) : flat es (n + m) = flat cs n ++ flat ds m := by
 obtain ⟨h1, h2, h3⟩ := appCols_vals h
 apply flat_ext
 ·rw [List.length_append, length_flat, length_flat, h1, h2, Nat.add_mul]
 ·intro i j e hi hj
  have hjl : j < cs.length := by rw [← h1]; exact (List.getElem?_eq_some_iff.1 hj).1
  obtain ⟨e', he', hv⟩ := h3 j cs[j] (ds[j]'(by omega)) (by simp [hjl]) (by simp [h2, hjl])
  rw [hj] at he'
  cases he'
  have hcl := hc cs[j] (List.getElem_mem hjl)
  rw [h1]
  obtain ⟨d, hdj⟩ : ∃ d, ds[j]? = some d := ⟨ds[j]'(by omega), by simp [h2, hjl]⟩
  have hv : e.vals = cs[j].vals ++ d.vals := by rw [hv]; congr 2; exact (List.getElem?_eq_some_iff.1 hdj).2
  by_cases hin : i < n
  ·rw [List.getElem?_append_left (by rw [length_flat]; exact idx_lt hin hjl), flat_get cs n i j cs[j] hin (by simp [hjl]), hv, List.getElem?_append_left (by omega)]
  ·have e1 : i * cs.length + j - (flat cs n).length = (i - n) * cs.length + j := by
    rw [length_flat, Nat.sub_mul]
    have := Nat.mul_le_mul_right cs.length (Nat.le_of_not_lt hin)
    omega
   have hge : (flat cs n).length ≤ i * cs.length + j := by
    rw [length_flat]
    have := Nat.mul_le_mul_right cs.length (Nat.le_of_not_lt hin)
    omega
   have := flat_get ds m (i - n) j d (by omega) hdj
   rw [h2] at this
   rw [List.getElem?_append_right hge, e1, this, hv, List.getElem?_append_right (by omega), hcl]
theorem getElem?_overC {α : Type} (l : List α) (a : Nat) (m : List α) (h : a + m.length ≤ l.length) (i : Nat) :
  (overC l a m)[i]? = if i < a then l[i]? else if i < a + m.length then m[i - a]? else l[i]? := by
 unfold overC
 by_cases h1 : i < a
 ·rw [if_pos h1, List.append_assoc, List.getElem?_append_left (by simp; omega), List.getElem?_take_of_lt h1]
 ·rw [if_neg h1]
  by_cases h2 : i < a + m.length
  ·rw [if_pos h2, List.append_assoc, List.getElem?_append_right (by simp; omega), List.getElem?_append_left (by simp; omega)]
   congr 1
   simp; omega
  ·rw [if_neg h2, List.getElem?_append_right (by simp; omega), List.getElem?_drop]
   congr 1
   simp; omega
theorem length_overC {α : Type} (l : List α) (a : Nat) (m : List α) (h : a + m.length ≤ l.length) : (overC l a m).length = l.length := by
 simp [overC]; omega
theorem flat_over {cs ds es : List Col} {n m : Nat} {a : Th Nat} (h : overCols a cs ds = some es) (hc : ∀ c ∈ cs, c.vals.length = n) (hd : ∀ d ∈ ds, d.vals.length = m) (ha : a () + m ≤ n) :
  flat es n = overC (flat cs n) (a () * cs.length) (flat ds m) := by
 obtain ⟨h1, h2, h3⟩ := overCols_vals h
 have hfit : a () * cs.length + (flat ds m).length ≤ (flat cs n).length := by
  rw [length_flat, length_flat, h2, ← Nat.add_mul]
  exact Nat.mul_le_mul_right _ ha
 apply flat_ext
 ·rw [length_overC _ _ _ hfit, length_flat, h1]
 ·intro i j e hi hj
  have hjl : j < cs.length := by rw [← h1]; exact (List.getElem?_eq_some_iff.1 hj).1
  obtain ⟨e', he', hv⟩ := h3 j cs[j] (ds[j]'(by omega)) (by simp [hjl]) (by simp [h2, hjl])
  rw [hj] at he'
  cases he'
  have hcl := hc cs[j] (List.getElem_mem hjl)
  obtain ⟨d, hdj⟩ : ∃ d, ds[j]? = some d := ⟨ds[j]'(by omega), by simp [h2, hjl]⟩
  have hv : e.vals = overC cs[j].vals (a ()) d.vals := by rw [hv]; congr 1; congr 1; exact (List.getElem?_eq_some_iff.1 hdj).2
  have hdl := hd d (List.mem_of_getElem? hdj)
  rw [h1, getElem?_overC _ _ _ hfit, hv, getElem?_overC _ _ _ (by omega), length_flat, hdl, h2]
  by_cases h4 : i < a ()
  ·rw [if_pos (idx_lt h4 hjl), if_pos h4, flat_get cs n i j cs[j] hi (by simp [hjl])]
  ·have hge := Nat.mul_le_mul_right cs.length (Nat.le_of_not_lt h4)
   rw [if_neg (by omega), if_neg h4]
   by_cases h5 : i < a () + m
   ·have := idx_lt h5 hjl
    rw [Nat.add_mul] at this
    rw [if_pos this, if_pos h5]
    have e1 : i * cs.length + j - a () * cs.length = (i - a ()) * cs.length + j := by rw [Nat.sub_mul]; omega
    have := flat_get ds m (i - a ()) j d (by omega) hdj
    rw [h2] at this
    rw [e1, this]
   ·have hge := Nat.mul_le_mul_right cs.length (Nat.le_of_not_lt h5)
    rw [Nat.add_mul] at hge
    rw [if_neg (by omega), if_neg h5, flat_get cs n i j cs[j] hi (by simp [hjl])]
theorem CellsAt.cut {w : World} {ad : Addr} {cs : List Col} {n : Nat} {off m : Th Nat} (h : CellsAt w ad (flat cs n)) (hc : ∀ c ∈ cs, c.vals.length = n) (hm : off () + m () ≤ n) :
  CellsAt w ⟨ad.block, ad.off + off () * cs.length, none⟩ (flat (cutCols off m cs) (m ())) := by
 intro q v hv
 have hlen : (cutCols off m cs).length = cs.length := by simp [cutCols_eq]
 have hq : q < m () * cs.length := by
  have := (List.getElem?_eq_some_iff.1 hv).1
  rwa [length_flat, hlen] at this
 have hpos : 0 < cs.length := by
  rcases Nat.eq_zero_or_pos cs.length with h | h
  ·rw [h] at hq; omega
  ·exact h
 have e : q = q / cs.length * cs.length + q % cs.length := by rw [Nat.mul_comm]; exact (Nat.div_add_mod q cs.length).symm
 have hi : q / cs.length < m () := Nat.div_lt_of_lt_mul (by rw [Nat.mul_comm]; exact hq)
 have hj : q % cs.length < cs.length := Nat.mod_lt _ hpos
 have h1 := flat_get (cutCols off m cs) (m ()) (q / cs.length) (q % cs.length) ((cs[q % cs.length]).cut off m) hi (by simp [cutCols_eq, hj])
 rw [hlen, ← e] at h1
 rw [h1] at hv
 cases hv
 have h2 := flat_get cs n (off () + q / cs.length) (q % cs.length) cs[q % cs.length] (by omega) (by simp [hj])
 have := h _ _ h2
 rw [show ad.off + ((off () + q / cs.length) * cs.length + q % cs.length) = ad.off + off () * cs.length + q by rw [Nat.add_mul]; omega] at this
 rw [this, cut_vals, List.getElem?_take_of_lt hi, List.getElem?_drop]
theorem cut_len {cs : List Col} {n : Nat} {off m : Th Nat} (hc : Cols.ok cs n) (hm : off () + m () ≤ n) : Cols.ok (cutCols off m cs) (m ()) := by
 intro c hc'
 rw [cutCols_eq, List.mem_map] at hc'
 obtain ⟨d, hd, rfl⟩ := hc'
 obtain ⟨h1, h2⟩ := hc d hd
 rw [cut_vals]
 refine ⟨by simp; omega, fun v hv => h2 v (List.mem_of_mem_drop (List.mem_of_mem_take hv))⟩
theorem flat_mem {cs : List Col} {n : Nat} (h : Cols.ok cs n) : ∀ v ∈ flat cs n, v.oneCell' = true := by
 intro v hv
 unfold flat at hv
 rw [List.mem_flatMap] at hv
 obtain ⟨i, hi, hv⟩ := hv
 rw [List.mem_map] at hv
 obtain ⟨c, hc, rfl⟩ := hv
 obtain ⟨h1, h2⟩ := h c hc
 have : i < c.vals.length := by rw [h1]; simpa using hi
 rw [List.getElem?_eq_getElem this]
 exact h2 _ (List.getElem_mem _)
theorem app_ok {cs ds es : List Col} {n m : Nat} (h : appCols cs ds = some es) (hc : Cols.ok cs n) (hd : Cols.ok ds m) : Cols.ok es (n + m) := by
 obtain ⟨h1, h2, h3⟩ := appCols_vals h
 intro e he
 obtain ⟨j, hj, rfl⟩ := List.getElem_of_mem he
 have hjl : j < cs.length := by omega
 obtain ⟨e', he', hv⟩ := h3 j cs[j] (ds[j]'(by omega)) (by simp [hjl]) (by simp [h2, hjl])
 rw [List.getElem?_eq_getElem hj] at he'
 cases he'
 obtain ⟨a1, a2⟩ := hc _ (List.getElem_mem hjl)
 obtain ⟨b1, b2⟩ := hd (ds[j]'(by omega)) (List.getElem_mem _)
 rw [hv]
 refine ⟨by simp [a1, b1], fun v hm => ?_⟩
 rcases List.mem_append.1 hm with h | h
 ·exact a2 v h
 ·exact b2 v h
theorem over_ok {cs ds es : List Col} {n m : Nat} {a : Th Nat} (h : overCols a cs ds = some es) (hc : Cols.ok cs n) (hd : Cols.ok ds m) (ha : a () + m ≤ n) : Cols.ok es n := by
 obtain ⟨h1, h2, h3⟩ := overCols_vals h
 intro e he
 obtain ⟨j, hj, rfl⟩ := List.getElem_of_mem he
 have hjl : j < cs.length := by omega
 obtain ⟨e', he', hv⟩ := h3 j cs[j] (ds[j]'(by omega)) (by simp [hjl]) (by simp [h2, hjl])
 rw [List.getElem?_eq_getElem hj] at he'
 cases he'
 obtain ⟨a1, a2⟩ := hc _ (List.getElem_mem hjl)
 obtain ⟨b1, b2⟩ := hd (ds[j]'(by omega)) (List.getElem_mem _)
 rw [hv]
 refine ⟨by rw [length_overC _ _ _ (by omega), a1], fun v hm => ?_⟩
 unfold overC at hm
 rcases List.mem_append.1 hm with h | h
 ·rcases List.mem_append.1 h with h | h
  ·exact a2 v (List.mem_of_mem_take h)
  ·exact b2 v h
 ·exact a2 v (List.mem_of_mem_drop h)
theorem zeroCols_eq (n : Th Nat) (cts : List CT) : zeroCols n cts = cts.map (CT.zero n) := by
 induction cts with
 | nil => rfl
 | cons c cs ih => simp [zeroCols, ih]
theorem zero_vals (n : Th Nat) (c : CT) : (c.zero n).vals = List.replicate (n ()) c.z := by
 cases c <;> simp [CT.zero, Col.vals, CT.z, empty_bytes]
theorem ctOf_z (v : Value) : (ctOf v).z = v := by
 unfold ctOf
 split <;> (try split) <;> simp_all [CT.z]
theorem ctsOf_z (l : List Value) : (ctsOf l).map CT.z = l := by
 induction l with
 | nil => rfl
 | cons v l ih => simp [ctsOf, ctOf_z, ih]
theorem ctsOf_length (l : List Value) : (ctsOf l).length = l.length := by
 induction l with
 | nil => rfl
 | cons v l ih => simp [ctsOf, ih]
theorem flat_zero (n : Th Nat) (cts : List CT) : flat (zeroCols n cts) (n ()) = (Builtin.zeroCells (cts.map CT.z).toArray (n ())).toList := by
 apply flat_ext
 ·simp [zeroCols_eq, Builtin.zeroCells]
 ·intro i j c hi hj
  rw [zeroCols_eq, List.getElem?_map, Option.map_eq_some_iff] at hj
  obtain ⟨ct, hct, rfl⟩ := hj
  have hjl : j < cts.length := (List.getElem?_eq_some_iff.1 hct).1
  have hlen : (zeroCols n cts).length = cts.length := by simp [zeroCols_eq]
  rw [hlen, zero_vals]
  have hlt := idx_lt hi hjl
  simp only [Builtin.zeroCells, List.size_toArray, List.length_map, Array.toList_map, Array.toList_range, List.getElem?_map, List.getElem?_range hlt, Option.map_some]
  rw [(idx_div hjl).2]
  have : ct = cts[j] := by
   have := (List.getElem?_eq_some_iff.1 hct).2
   exact this.symm
  simp [hi, hjl, this]
theorem zero_ok (n : Th Nat) {cts : List CT} (h : ∀ c ∈ cts, c.z.oneCell' = true) : Cols.ok (zeroCols n cts) (n ()) := by
 intro c hc
 rw [zeroCols_eq, List.mem_map] at hc
 obtain ⟨ct, hct, rfl⟩ := hc
 rw [zero_vals]
 refine ⟨by simp, fun v hv => ?_⟩
 rw [List.mem_replicate] at hv
 rw [hv.2]; exact h ct hct
theorem DenH.move {Γ : Ctx} {hp : List Ch} {w w' : World} {k : Nat} {c c' d : Ch} (h : DenH Γ hp w) (hk : hp[k]? = some c) (hb : c'.base = c.base)
  (ho : w'.os = w.os) (hu : w'.output = w.output) (ht : w'.tape = w.tape) (hs : w.heap.size ≤ w'.heap.size)
  (hw : ∀ S, c.holds Γ (bases hp) w S → (∀ x, S x → x < w.heap.size ∧ (x < Γ.w0.heap.size → Γ.D x)) → (∀ x, x < w.heap.size → ¬ S x → w'.heap[x]? = w.heap[x]?) ∧
   ∃ S' T : Nat → Prop, (∀ x, S' x → S x) ∧ (∀ x, T x → S x ∨ (w.heap.size ≤ x ∧ x < w'.heap.size)) ∧ (∀ x, S' x → T x → False) ∧
    c'.holds Γ (bases hp ++ [d.base]) w' S' ∧ d.holds Γ (bases hp ++ [d.base]) w' T) :
  DenH Γ (hp.set k c' ++ [d]) w' := by
 obtain ⟨S, dd⟩ := h
 obtain ⟨hoth, S', T, hsub, hT, hdj, hc', hd'⟩ := hw (S k) (dd.ch k c hk) (fun x hx => ⟨dd.dom k x hx, dd.own k x hx⟩)
 have hlt : k < hp.length := (List.getElem?_eq_some_iff.1 hk).1
 have hf : Fr Γ.D Γ.w0 w' := ⟨ho.trans dd.fr.os, hu.trans dd.fr.output, ht.trans dd.fr.tape, Nat.le_trans dd.fr.size hs, fun b hb' hD => by
  rw [hoth b (Nat.lt_of_lt_of_le hb' dd.fr.size) (fun hS => hD (dd.own k b hS hb'))]; exact dd.fr.keep b hb' hD⟩
 have hbs : bases (hp.set k c' ++ [d]) = bases hp ++ [d.base] := by rw [bases_append, bases_set hk hb]; rfl
 have hpre : ∃ bs, bases (hp.set k c' ++ [d]) = Γ.b0 ++ bs := by
  obtain ⟨bs, hb0⟩ := dd.pre
  exact ⟨bs ++ [d.base], by rw [hbs, hb0, List.append_assoc]⟩
 refine ⟨fun j x => if j = hp.length then T x else if j = k then S' x else S j x, hf, ?_, ?_, ?_, ?_, ?_, hpre⟩
 ·intro j cj hj
  rw [hbs]
  by_cases e0 : j = hp.length
  ·subst e0
   rw [List.getElem?_append_right (by simp)] at hj
   simp at hj
   subst hj
   simpa using hd'
  ·by_cases e : j = k
   ·subst e
    rw [List.getElem?_append_left (by simpa using hlt), List.getElem?_set_self hlt] at hj
    cases hj
    simpa [e0] using hc'
   ·have hjl : j < hp.length := by
     have := (List.getElem?_eq_some_iff.1 hj).1
     simp at this; omega
    rw [List.getElem?_append_left (by simpa using hjl), List.getElem?_set_ne (Ne.symm e)] at hj
    have := ((dd.ch j cj hj).keep dd.fr hf hs (fun x hx => hoth x (dd.dom j x hx) (fun hS => e (dd.dj j k x hx hS)))).ext (bs' := [d.base])
    simpa [e, e0] using this
 ·intro j j' x h1 h2
  have dom' : ∀ j, S j x → x < w.heap.size := fun j h => dd.dom j x h
  by_cases e0 : j = hp.length <;> by_cases e0' : j' = hp.length
  ·omega
  ·rw [if_pos e0] at h1
   rw [if_neg e0'] at h2
   by_cases e' : j' = k
   ·rw [if_pos e'] at h2; exact (hdj x h2 h1).elim
   ·rw [if_neg e'] at h2
    rcases hT x h1 with h3 | h3
    ·exact absurd (dd.dj j' k x h2 h3) e'
    ·have := dom' _ h2; omega
  ·rw [if_pos e0'] at h2
   rw [if_neg e0] at h1
   by_cases e' : j = k
   ·rw [if_pos e'] at h1; exact (hdj x h1 h2).elim
   ·rw [if_neg e'] at h1
    rcases hT x h2 with h3 | h3
    ·exact absurd (dd.dj j k x h1 h3) e'
    ·have := dom' _ h1; omega
  ·rw [if_neg e0] at h1
   rw [if_neg e0'] at h2
   by_cases e : j = k <;> by_cases e' : j' = k <;> simp only [e, e', if_true, if_false] at h1 h2 ⊢
   ·exact absurd (dd.dj k j' x (hsub x h1) h2) (fun h => e' h.symm)
   ·exact absurd (dd.dj j k x h1 (hsub x h2)) e
   ·exact dd.dj j j' x h1 h2
 ·intro j x h1 hx
  by_cases e0 : j = hp.length
  ·rw [if_pos e0] at h1
   rcases hT x h1 with h3 | h3
   ·exact dd.own k x h3 hx
   ·have := dd.fr.size; omega
  ·rw [if_neg e0] at h1
   by_cases e : j = k <;> simp only [e, if_true, if_false] at h1
   ·exact dd.own k x (hsub x h1) hx
   ·exact dd.own j x h1 hx
 ·intro j x h1
  by_cases e0 : j = hp.length
  ·rw [if_pos e0] at h1
   rcases hT x h1 with h3 | h3
   ·have := dd.dom k x h3; omega
   ·omega
  ·rw [if_neg e0] at h1
   by_cases e : j = k <;> simp only [e, if_true, if_false] at h1
   ·have := dd.dom k x (hsub x h1); omega
   ·have := dd.dom j x h1; omega
 ·intro j x h1
  simp only [List.length_append, List.length_set, List.length_singleton]
  by_cases e0 : j = hp.length
  ·omega
  ·rw [if_neg e0] at h1
   by_cases e : j = k
   ·omega
   ·simp only [e, if_false] at h1; have := dd.out j x h1; omega
theorem DenH.push0 {Γ : Ctx} {hp : List Ch} {w : World} {d : Ch} (h : DenH Γ hp w) (hd : d.holds Γ (bases hp ++ [d.base]) w (fun _ => False)) : DenH Γ (hp ++ [d]) w := by
 obtain ⟨S, dd⟩ := h
 refine ⟨S, dd.fr, ?_, dd.dj, dd.own, dd.dom, fun j x hx => by have := dd.out j x hx; simp; omega, by
  obtain ⟨bs, hb⟩ := dd.pre
  exact ⟨bs ++ bases [d], by rw [bases_append, hb, List.append_assoc]⟩⟩
 intro j cj hj
 rw [bases_append]
 by_cases hlt : j < hp.length
 ·rw [List.getElem?_append_left hlt] at hj
  exact (dd.ch j cj hj).ext
 ·rw [List.getElem?_append_right (by omega)] at hj
  have hj0 : j = hp.length := by
   have := (List.getElem?_eq_some_iff.1 hj).1
   simp at this; omega
  subst hj0
  simp at hj
  subst hj
  have : S hp.length = fun _ => False := by
   funext x; apply propext
   exact ⟨fun hx => by have := dd.out _ x hx; omega, fun h => h.elim⟩
  rw [this]; exact hd
theorem DenH.row {Γ : Ctx} {hp : List Ch} {w : World} (h : DenH Γ hp w) {n sp : Th Nat} {cs : List Col} {cells : Array Value} {ty : Nat} {fz : Nat × Nat} (hok : Cols.ok cs (n ())) (hc : ∀ (i : Nat) (v : Value), (flat cs (n ()))[i]? = some v → cells[i]? = some v)
  (hsz : (n () + sp ()) * cs.length ≤ cells.size) (hfz : cells.size ≤ fz.1 ∨ fz = (0, 0)) (hpl : plain cs = true → fz = (0, 0)) :
  DenH Γ (hp ++ [.arr (some ⟨w.heap.size, 0, none⟩) n sp cs true]) (w.alloc (.cells cells ty fz)) := by
 refine h.push _ _ ?_
 refine ⟨hok, rfl, by simp, ?_, ?_⟩
 ·intro i v hv
  have hnew := heap_alloc_new w (.cells cells ty fz)
  simp only [World.cell?, hnew]
  simpa using hc i v hv
 ·simp only [if_true]
  have hnew := heap_alloc_new w (.cells cells ty fz)
  refine ⟨by simp, fun i hi => ?_, fun hp o _ => by have hz := hpl hp; subst hz; unfold World.frozen?; simp only [hnew]; simp⟩
  have hlt : i < cells.size := by omega
  constructor
  ·unfold World.frozen?
   simp only [hnew, Nat.zero_add]
   rcases hfz with h | h
   ·simp; omega
   ·rw [h]; simp
  ·simp only [World.cell?, hnew]
   simp [hlt]
end Go.Proofs.YtfoffehokhkohaaGreat
