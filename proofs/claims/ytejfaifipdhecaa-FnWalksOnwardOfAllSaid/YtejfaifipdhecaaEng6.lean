/-
  The operations that leave the table alone, the second part.
-/
import Derived.Test.YtejfaifipdhecaaEng5
import Derived.Laws.StructEq
set_option linter.unusedVariables false
set_option linter.unusedSimpArgs false
namespace Go.Lg
open Go.RowKit

theorem AV.R.val_sl {w : World} {S : Nat → Prop} {tab : List Ent} {pl : List Value} {e : Ty} {xs : List e.T} {cs : List Value} (h : (AV.val (.sl e) xs).R w S tab pl cs) :
    ∃ ad n c, cs = [.slice ad n c] ∧ n = xs.length ∧ n ≤ c ∧ (xs = [] ∨ ∃ b o, ad = some ⟨b, o, none⟩ ∧ S b ∧ ∀ i x, xs[i]? = some x → ∃ ces : List Value, Cells w b (o + i * e.size) ces ∧ e.R w S ces x) := by
  simpa only [AV.R, Ty.R] using h

section ops
variable {P : Program} {C : Ctx} (hT : thOk P C = true) {w : World} {S : Nat → Prop} {s : St} {pl : List Value} {a : Act}
  (he : EnvR w S s.tab pl s.env a.tmps) {G : PC} (hG : Holds a.tmps G)

theorem string_beq (x y : ByteArray) : (x.toList == y.toList) = decide (x = y) := by
  rw [Bool.eq_iff_iff]
  simp only [beq_iff_eq, decide_eq_true_eq, ByteArray.toList_eq]
  constructor
  · intro h
    have := Array.toList_inj.1 h
    cases x; cases y; simp_all
  · rintro rfl; rfl

theorem run_equal_bool {t : TypeId} {x y : Bool} (h : P.underlying t = some .bool) : (Op.equal t (.bool x) (.bool y)).run P w = .ok (x == y) w := by
  unfold Op.equal
  obtain ⟨n, hn⟩ : ∃ n, Op.maxDepth = n + 1 := ⟨_, rfl⟩
  rw [hn]
  simp only [Op.equalIn, Sem.run_bind, run_underlying h, Result.andThen_ok, Sem.run_pure]

theorem binOp_eql_bool (t : TypeId) (x y : Bool) : binOp .eql t (.bool x) (.bool y) = (do pure (.bool (← Op.equal t (.bool x) (.bool y)))) := rfl
theorem binOp_neq_bool (t : TypeId) (x y : Bool) : binOp .neq t (.bool x) (.bool y) = (do pure (.bool (!(← Op.equal t (.bool x) (.bool y))))) := rfl

theorem binary_sound {bt : Bool} {op : BinOp} {p q : AV} {g : Option Bool} {r : AV} (h : binary bt op p q = some (g, r)) (hg : g ≠ some false) (t : TypeId) (hbt : bt = true → P.underlying t = some .bool) (xo yo : Operand) {cp cq : List Value}
    (hp : p.R w S s.tab pl cp) (hq : q.R w S s.tab pl cq) :
    ∃ u, (do eqGuard op t xo yo (pack p.isAgg cp) (pack q.isAgg cq); binOp op t (pack p.isAgg cp) (pack q.isAgg cq) : Sem Value).run P w = .ok u w ∧ (SV.one r).R w S s.tab pl u := by
  unfold binary at h
  split at h
  · rename_i k x k' y
    simp only [AV.R, Ty.R] at hp hq
    subst hp hq
    simp only [pack, AV.isAgg, Ty.isAgg, Bool.false_eq_true, if_false, List.headD_cons]
    split at h
    · simp only [Option.some.injEq, Prod.mk.injEq] at h
      obtain ⟨rfl, rfl⟩ := h
      have hy : 0 ≤ y := Int.not_lt.1 fun e => hg (by simp [Int.not_le.2 e])
      obtain ⟨n, h1, h2⟩ := shift_sound (P := P) (w := w) (k := k) (yk := k') (x := x) hy t xo yo (.inl rfl)
      simp only at h2; subst h2
      exact ⟨_, h1, sv_int⟩
    · simp only [Option.some.injEq, Prod.mk.injEq] at h
      obtain ⟨rfl, rfl⟩ := h
      have hy : 0 ≤ y := Int.not_lt.1 fun e => hg (by simp [Int.not_le.2 e])
      obtain ⟨n, h1, h2⟩ := shift_sound (P := P) (w := w) (k := k) (yk := k') (x := x) hy t xo yo (.inr rfl)
      simp only at h2; subst h2
      exact ⟨_, h1, sv_int⟩
    · rename_i hn1 hn2
      split at h
      · rename_i hk; subst hk
        exact arith_sound h hg t xo yo ⟨hn1, hn2⟩
      · cases h
  · rename_i x y
    simp only [AV.R, Ty.R] at hp hq
    subst hp hq
    simp only [pack, AV.isAgg, Ty.isAgg, Bool.false_eq_true, if_false, List.headD_cons]
    split at h
    · simp only [Option.some.injEq, Prod.mk.injEq] at h
      obtain ⟨rfl, rfl⟩ := h
      exact ⟨.bool (x == y), by simp only [eqGuard_at_bool, binOp_eql_bool, Sem.run_bind, Sem.run_pure, Result.andThen_ok, run_equal_bool (hbt rfl)], sv_bool⟩
    · simp only [Option.some.injEq, Prod.mk.injEq] at h
      obtain ⟨rfl, rfl⟩ := h
      exact ⟨.bool (x != y), by simp only [eqGuard_at_bool, binOp_neq_bool, Sem.run_bind, Sem.run_pure, Result.andThen_ok, run_equal_bool (hbt rfl)]; rfl, sv_bool⟩
    · cases h
  · rename_i x y
    simp only [AV.R, Ty.R] at hp hq
    subst hp hq
    simp only [pack, AV.isAgg, Ty.isAgg, Bool.false_eq_true, if_false, List.headD_cons]
    split at h
    · simp only [Option.some.injEq, Prod.mk.injEq] at h
      obtain ⟨rfl, rfl⟩ := h
      exact ⟨.bool _, by simp only [eqGuard_at_string, binOp, Op.stringOp, string_beq]; simp, sv_bool⟩
    · simp only [Option.some.injEq, Prod.mk.injEq] at h
      obtain ⟨rfl, rfl⟩ := h
      exact ⟨.bool _, by simp only [eqGuard_at_string, binOp, Op.stringOp, string_beq]; simp, sv_bool⟩
    · simp only [Option.some.injEq, Prod.mk.injEq] at h
      obtain ⟨rfl, rfl⟩ := h
      have hle : x.size + y.size ≤ LIM := Nat.not_lt.1 fun e => hg (by simp [Nat.not_le.2 e])
      have hn : ¬ (9223372036854775807 < (x.size : Int) + (y.size : Int)) := by unfold LIM at hle; omega
      exact ⟨.string _, by simp [eqGuard_at_string, binOp, Op.stringOp, hn], sv_str⟩
    · cases h
  · cases h

theorem run_eql_slice_nil (w : World) {t e : TypeId} (h : P.underlying t = some (.slice e)) (ad : Option Addr) (n c : Nat) (xo yo : Operand) :
    (do eqGuard .eql t xo yo (.slice ad n c) (.slice none 0 0); binOp .eql t (.slice ad n c) (.slice none 0 0) : Sem Value).run P w = .ok (.bool ad.isNone) w := by
  have h1 : eqGuard .eql t xo yo (.slice ad n c) (.slice none 0 0) = (pure () : Sem Unit) := rfl
  have h2 : binOp .eql t (.slice ad n c) (.slice none 0 0) = (do pure (.bool (← Op.equal t (.slice ad n c) (.slice none 0 0)))) := rfl
  have h3 : ∀ d, (Op.equalIn (d + 1) t (.slice ad n c) (.slice none 0 0)).run P w = .ok ad.isNone w := fun d => by
    cases ad <;> simp [Op.equalIn, run_underlying h]
  rw [h1, h2]
  unfold Op.equal
  obtain ⟨m, hm⟩ : ∃ m, Op.maxDepth = m + 1 := ⟨_, rfl⟩
  rw [hm]
  simp only [Sem.run_bind, Sem.run_pure, Result.andThen_ok, h3]

include hT in
theorem run_part_int {id : TypeId} {k : IntKind} (hf : find id C.th = some (.int k)) {cs : Array Value} {off : Nat} {v : Value} (h : cs[off]? = some v) : (part id cs off).run P w = .ok v w := by
  obtain ⟨d, i, hi⟩ := thOk_find hT hf
  simp [part, Sem.run_bind, hi.isAgg w, Ty.isAgg, h, Result.andThen]

include hT in
theorem under_int {id : TypeId} {k : IntKind} (hf : find id C.th = some (.int k)) : P.underlying id = some (.int k) := by
  obtain ⟨d, i, hi⟩ := thOk_find hT hf
  have hd := hi.desc
  cases d <;> simp [descOk, Ty.isAgg] at hd
  subst hd
  exact hi.under

include hT in
theorem eqPair_sound {t : TypeId} {op : BinOp} {p q r : AV} (h : eqPair C t op p q = some r) (xo yo : Operand) {cp cq : List Value} (hp : p.R w S s.tab pl cp) (hq : q.R w S s.tab pl cq) :
    ∃ u, (do eqGuard op t xo yo (pack p.isAgg cp) (pack q.isAgg cq); binOp op t (pack p.isAgg cp) (pack q.isAgg cq) : Sem Value).run P w = .ok u w ∧ (SV.one r).R w S s.tab pl u := by
  unfold eqPair at h
  split at h
  · rename_i k k' x l l' y
    split at h
    · rename_i hc
      obtain ⟨hf, rfl, rfl⟩ := hc
      obtain ⟨d, i, hi⟩ := thOk_find hT hf
      have hd := hi.desc
      have heq := hi.eq
      cases d <;> simp [descOk, Ty.isAgg] at hd
      rename_i fs
      obtain ⟨fl, rfl⟩ : ∃ fl : List Field, fs = fl.toArray := ⟨fs.toList, by simp⟩
      simp only [eqOk, Bool.and_eq_true, Bool.not_eq_true'] at heq
      obtain ⟨⟨e1, e2⟩, e3⟩ := heq
      match fl, hd with
      | [], hd => simp [fieldsOk] at hd
      | [_], hd => simp [fieldsOk] at hd
      | _ :: _ :: _ :: _, hd => simp [fieldsOk] at hd
      | [f, g], hd =>
        simp only [fieldsOk, Bool.and_eq_true, decide_eq_true_eq, Ty.size, Nat.zero_add] at hd
        obtain ⟨⟨h1, h2⟩, ⟨⟨h3, h4⟩, _⟩⟩ := hd
        have h1 := Nat.eq_of_beq_eq_true h1
        have h3 := Nat.eq_of_beq_eq_true h3
        simp only [List.all_cons, List.all_nil, Bool.and_true, Bool.and_eq_true, bne_iff_ne] at e3
        obtain ⟨n1, n2⟩ := e3
        simp only [AV.R, Ty.R] at hp hq
        obtain ⟨_, _, rfl, rfl, _, _, rfl, rfl, rfl⟩ := hp
        obtain ⟨_, _, rfl, rfl, _, _, rfl, rfl, rfl⟩ := hq
        have hfo : P.fieldsOf t = #[f, g] := by unfold Program.fieldsOf; rw [hi.under]
        have hu : P.underlying t = some (.struct (P.fieldsOf t)) := by rw [hfo]; exact hi.under
        have hrun : (Op.equalIn 10000 t (.agg #[.int k x.1, .int k' x.2.1]) (.agg #[.int k y.1, .int k' y.2.1])).run P w = .ok (decide (x.1 = y.1) && decide (x.2.1 = y.2.1)) w := by
          rw [show (10000 : Nat) = 9999 + 1 from rfl, run_equalIn_agg _ _ _ _ _ hu e1, hfo]
          have i1 : (Op.equalIn 9999 f.type (.int k x.1) (.int k y.1)).run P w = .ok (x.1 == y.1) w := run_equalIn_int (P := P) (w := w) 9998 f.type k k x.1 y.1 (under_int hT h2)
          have i2 : (Op.equalIn 9999 g.type (.int k' x.2.1) (.int k' y.2.1)).run P w = .ok (x.2.1 == y.2.1) w := run_equalIn_int (P := P) (w := w) 9998 g.type k' k' x.2.1 y.2.1 (under_int hT h4)
          have p1 : ∀ (a b : Value), (part f.type #[a, b] f.offset).run P w = .ok a w := fun a b => run_part_int hT h2 (by rw [h1]; rfl)
          have p2 : ∀ (a b : Value), (part g.type #[a, b] g.offset).run P w = .ok b w := fun a b => run_part_int hT h4 (by rw [h3]; rfl)
          by_cases hx : x.1 = y.1
          · rw [beq_iff_eq.2 hx] at i1
            by_cases hy : x.2.1 = y.2.1
            · rw [beq_iff_eq.2 hy] at i2
              simp only [Op.eqFields, ne_eq, n1, n2, not_false_eq_true, if_true, Sem.run_bind, Sem.run_pure, p1, p2, Result.andThen_ok, i1, i2, Bool.not_true, Bool.false_eq_true, if_false, decide_eq_true hx, decide_eq_true hy, Bool.and_self]
            · rw [beq_eq_false_iff_ne.2 hy] at i2
              simp only [Op.eqFields, ne_eq, n1, n2, not_false_eq_true, if_true, Sem.run_bind, Sem.run_pure, p1, p2, Result.andThen_ok, i1, i2, Bool.not_true, Bool.not_false, Bool.false_eq_true, if_false, decide_eq_false hy, Bool.and_false]
          · rw [beq_eq_false_iff_ne.2 hx] at i1
            simp only [Op.eqFields, ne_eq, n1, n2, not_false_eq_true, if_true, Sem.run_bind, Sem.run_pure, p1, p2, Result.andThen_ok, i1, Bool.not_false, decide_eq_false hx, Bool.false_and]
        have hpk : ∀ z : Int × (Int × Unit), pack (AV.isAgg (.val (.pair (.int k) (.pair (.int k') .unit)) z)) ([Value.int k z.1] ++ ([Value.int k' z.2.1] ++ [])) = .agg #[.int k z.1, .int k' z.2.1] := fun z => rfl
        split at h
        · simp only [Option.some.injEq] at h
          subst h
          refine ⟨.bool (decide (x.1 = y.1) && decide (x.2.1 = y.2.1)), ?_, sv_bool⟩
          rw [hpk x, hpk y]
          simp only [Sem.run_bind, run_eqGuard_agg _ _ _ _ _ _ _ e2, Result.andThen_ok, run_eql_struct, hrun]
        · simp only [Option.some.injEq] at h
          subst h
          refine ⟨.bool (!(decide (x.1 = y.1) && decide (x.2.1 = y.2.1))), ?_, sv_bool⟩
          rw [hpk x, hpk y]
          simp only [Sem.run_bind, run_eqGuard_agg _ _ _ _ _ _ _ e2, Result.andThen_ok, run_neq_struct, hrun]
        · cases h
    · cases h
  · cases h

include hT he hG in
theorem opBin_sound {op : BinOp} {t : TypeId} {x y : Operand} {g : Option Bool} {v : SV} (h : opBin C s G op t x y = some (g, v)) (hg : g ≠ some false) :
    ∃ u, (do eqGuard op t x y (a.eval x) (a.eval y); binOp op t (a.eval x) (a.eval y) : Sem Value).run P w = .ok u w ∧ v.R w S s.tab pl u := by
  unfold opBin at h
  split at h
  · rename_i p q hp hq
    split at h
    · rename_i g' r hb
      simp only [Option.some.injEq, Prod.mk.injEq] at h
      obtain ⟨rfl, rfl⟩ := h
      obtain ⟨cp, hp1, hp2⟩ := av_sound he hG hp
      obtain ⟨cq, hq1, hq2⟩ := av_sound he hG hq
      rw [hp2, hq2]
      refine binary_sound hb hg t (fun hbt => ?_) x y hp1 hq1
      unfold isBool at hbt
      split at hbt
      · rename_i hf
        obtain ⟨d, i, hi⟩ := thOk_find hT hf
        have hd := hi.desc
        cases d <;> simp [descOk, Ty.isAgg] at hd
        exact hi.under
      · cases hbt
    · split at h
      · rename_i r hb
        simp only [Option.some.injEq, Prod.mk.injEq] at h
        obtain ⟨rfl, rfl⟩ := h
        obtain ⟨cp, hp1, hp2⟩ := av_sound he hG hp
        obtain ⟨cq, hq1, hq2⟩ := av_sound he hG hq
        rw [hp2, hq2]
        exact eqPair_sound hT hb x y hp1 hq1
      · cases h
  · rename_i e xs hp hq
    split at h
    · rename_i hy hsl
      simp only [Option.some.injEq, Prod.mk.injEq] at h
      obtain ⟨rfl, rfl⟩ := h
      obtain ⟨cp, hp1, hp2⟩ := av_sound he hG hp
      simp only [AV.R, Ty.R] at hp1
      obtain ⟨ad, n, c, rfl, hn, hc, hor⟩ := hp1
      have hu : ∃ e', P.underlying t = some (.slice e') := by
        unfold isSl at hsl
        split at hsl
        · rename_i hf
          obtain ⟨d, i, hi⟩ := thOk_find hT hf
          have hd := hi.desc
          cases d <;> simp [descOk, Ty.isAgg] at hd
          exact ⟨_, hi.under⟩
        · cases hsl
      obtain ⟨e', hu⟩ := hu
      have hx : a.eval x = .slice ad n c := hp2
      rw [hx]
      refine ⟨.bool ad.isNone, run_eql_slice_nil w hu ad n c _ _, [.bool ad.isNone], ⟨_, rfl, fun hnone => ?_⟩, rfl⟩
      rcases hor with rfl | ⟨b, o, rfl, _⟩
      · rfl
      · cases hnone
    · cases h
  · cases h

include he hG in
theorem opUn_sound {op : UnOp} {x : Operand} {v : SV} (h : opUn s G op x = some v) : ∃ u, (Op.unary op (a.eval x)).run P w = .ok u w ∧ v.R w S s.tab pl u := by
  unfold opUn at h
  split at h
  · rename_i p hp
    split at h
    · rename_i r hr
      obtain rfl := Option.some.inj h
      unfold unary at hr
      split at hr
      · rename_i b
        split at hr
        · obtain rfl := Option.some.inj hr
          rw [av_bool he hG hp]
          exact ⟨.bool _, by simp [Op.unary], sv_bool⟩
        · cases hr
      · rename_i k n
        split at hr
        · obtain rfl := Option.some.inj hr
          rw [av_int he hG hp]
          exact ⟨.int k _, by simp [Op.unary, Op.intArith], sv_int⟩
        · cases hr
      · cases hr
    · cases h
  · cases h

include he hG in
theorem boolOf_sound {x : Operand} {b : Bool} (h : boolOf s G x = some b) : a.eval x = .bool b := by
  unfold boolOf at h
  split at h
  · rename_i b' hb
    obtain rfl := Option.some.inj h
    exact av_bool he hG hb
  · cases h

theorem ubOf_sound {x : Operand} {c : Bool} (h : ubOf s x = some c) (he : EnvR w S s.tab pl s.env a.tmps) (hG0 : Holds a.tmps []) : ∃ b : Bool, a.eval x = .bool b ∧ (b = true → c = true) := by
  unfold ubOf at h
  split at h
  · rename_i c' hc
    obtain rfl := Option.some.inj h
    obtain ⟨cs, h1, h2⟩ := av_sound he hG0 hc
    simp only [AV.R] at h1
    obtain ⟨b, rfl, hb⟩ := h1
    exact ⟨b, h2, hb⟩
  · cases h

theorem boolOf_tmp {c : Tmp} {b : Bool} (h : boolOf s G (.tmp c) = some b) (he : EnvR w S s.tab pl s.env a.tmps) (hG : Holds a.tmps G) : a.tmps[c]? = some (.bool b) := by
  have := boolOf_sound he hG h
  simp only [Act.eval, Array.getD_eq_getD_getElem?] at this
  cases hc : a.tmps[c]? with
  | none => rw [hc] at this; cases this
  | some u => rw [hc] at this; simpa using this

include he hG in
theorem opPick_sound {c : Tmp} {x y : Operand} {v : SV} (h : opPick s G c x y = some v) :
    ∃ u, (do pure (if ← asBool (a.eval (.tmp c)) then a.eval x else a.eval y) : Sem Value).run P w = .ok u w ∧ v.R w S s.tab pl u := by
  unfold opPick at h
  split at h
  · rename_i b hb
    have hcb := boolOf_tmp hb he hG
    have hc := boolOf_sound he hG hb
    have push : ∀ d, b = d → Holds a.tmps ((c, d) :: G) := fun d hd p hp => by
      rcases List.mem_cons.1 hp with rfl | hp
      · rw [hcb, hd]
      · exact hG p hp
    split at h
    · rename_i ha
      have hx : x = .const (.bool true) := by unfold armOf at ha; split at ha <;> first | rfl | cases ha
      subst hx
      split at h
      · rename_i z hz
        obtain rfl := Option.some.inj h
        refine ⟨.bool (b || z), ?_, sv_bool⟩
        cases b with
        | true => simp only [hc, asBool, Sem.run_bind, Sem.run_pure, Result.andThen_ok, if_true]; rfl
        | false => simp only [hc, asBool, Sem.run_bind, Sem.run_pure, Result.andThen_ok, boolOf_sound he (push false rfl) hz]; rfl
      · cases h
    · split at h
      · rename_i ha hb'
        have hy : y = .const (.bool false) := by unfold armOf at hb'; split at hb' <;> first | rfl | cases hb'
        subst hy
        split at h
        · rename_i z hz
          obtain rfl := Option.some.inj h
          refine ⟨.bool (b && z), ?_, sv_bool⟩
          cases b with
          | true => simp only [hc, asBool, Sem.run_bind, Sem.run_pure, Result.andThen_ok, boolOf_sound he (push true rfl) hz]; rfl
          | false => simp only [hc, asBool, Sem.run_bind, Sem.run_pure, Result.andThen_ok]; rfl
        · cases h
      · cases h
  · cases h

/-- A plain variable of some type, read. -/
theorem run_loadVar {id : TypeId} {t : Ty} {d : TypeDesc} {i : TypeInfo} (hi : TyOk P C id t d i) {b o : Nat} {cs : List Value} (hl : cs.length = t.size) (h : Cells w b o cs) :
    (loadVar id ⟨b, o, none⟩).run P w = .ok (pack t.isAgg cs) w := by
  have hc : (loadCells ⟨b, o, none⟩ t.size).run P w = .ok cs.toArray w := by
    rw [← hl]
    exact run_loadCells_list w ⟨b, o, none⟩ cs fun j v hj => by rw [Addr.add_lit]; exact h j v hj
  unfold loadVar
  rw [Sem.run_bind, hi.isAgg]
  cases ha : t.isAgg with
  | true => simp [Result.andThen, hi.sizeOf, hc, pack]
  | false =>
    rw [Ty.size_one ha] at hl
    match cs, hl with
    | [c], _ =>
      have := h 0 c rfl
      simp only [Nat.add_zero] at this
      simp [Result.andThen, pack, load, Sem.run, this]

theorem AV.fits_agg : ∀ {a : AV} {t : Ty}, a.fits t = true → a.isAgg = t.isAgg ∧ a.size = t.size
  | .pr a b, .pair s t, h => by
    simp only [AV.fits, Bool.and_eq_true] at h
    exact ⟨rfl, by simp [AV.size, Ty.size, (AV.fits_agg h.1).2, (AV.fits_agg h.2).2]⟩
  | .un, .unit, _ => ⟨rfl, rfl⟩
  | .val t x, t', h => by
    simp only [AV.fits, Bool.and_eq_true, decide_eq_true_eq] at h
    obtain ⟨rfl, h⟩ := h
    exact ⟨rfl, rfl⟩
  | .nsl _ _, t, h => by cases t <;> simp [AV.fits] at h <;> exact ⟨rfl, rfl⟩
  | .own _, t, h => by cases t <;> simp [AV.fits] at h <;> exact ⟨rfl, rfl⟩
  | .npt, t, h => by cases t <;> simp [AV.fits] at h <;> exact ⟨rfl, rfl⟩
  | .bx _ _ _, t, h => by cases t <;> simp [AV.fits] at h <;> exact ⟨rfl, rfl⟩
  | .ela _ _ _, t, h => by cases t <;> simp [AV.fits] at h <;> exact ⟨rfl, rfl⟩
  | .xr _ x, t, h => by cases x <;> cases t <;> simp [AV.fits] at h <;> exact ⟨rfl, rfl⟩
  | .fn _ _, t, h => by cases t <;> simp [AV.fits] at h
  | .dd, t, h => by cases t <;> simp [AV.fits] at h
  | .ub _, t, h => by cases t <;> simp [AV.fits] at h
  | .un, .int _, h => by simp [AV.fits] at h
  | .un, .bool, h => by simp [AV.fits] at h
  | .un, .str, h => by simp [AV.fits] at h
  | .un, .sl _, h => by simp [AV.fits] at h
  | .un, .pt _, h => by simp [AV.fits] at h
  | .un, .pair _ _, h => by simp [AV.fits] at h
  | .pr _ _, .int _, h => by simp [AV.fits] at h
  | .pr _ _, .bool, h => by simp [AV.fits] at h
  | .pr _ _, .str, h => by simp [AV.fits] at h
  | .pr _ _, .sl _, h => by simp [AV.fits] at h
  | .pr _ _, .pt _, h => by simp [AV.fits] at h
  | .pr _ _, .unit, h => by simp [AV.fits] at h

/-- The part of a box's content that is asked for. -/
theorem AV.at_spec {tab : List Ent} : ∀ {c : AV} {o : Nat} {t : Ty} {r : AV}, c.at o t = some r → r.fits t = true ∧ ∀ {cs : List Value}, c.R w S tab pl cs → ∃ c1 c2 c3, cs = c1 ++ c2 ++ c3 ∧ c1.length = o ∧ r.R w S tab pl c2 := by
  intro c
  induction c with
  | pr a b iha ihb =>
    intro o t r h
    simp only [AV.at] at h
    split at h
    · rename_i hc
      simp only [Bool.and_eq_true] at hc
      obtain rfl := Option.some.inj h
      exact ⟨hc.2, fun {cs} hr => ⟨[], cs, [], by simp, (Nat.eq_of_beq_eq_true hc.1).symm ▸ rfl, hr⟩⟩
    · split at h
      · obtain ⟨h1, h2⟩ := iha h
        refine ⟨h1, fun {cs} hr => ?_⟩
        simp only [AV.R] at hr
        obtain ⟨d1, d2, rfl, g1, g2⟩ := hr
        obtain ⟨c1, c2, c3, rfl, g3, g4⟩ := h2 g1
        exact ⟨c1, c2, c3 ++ d2, by simp, g3, g4⟩
      · rename_i hlt
        have hge : a.size ≤ o := Nat.not_lt.1 fun hh => hlt (by rw [Nat.blt_eq]; exact hh)
        obtain ⟨h1, h2⟩ := ihb h
        refine ⟨h1, fun {cs} hr => ?_⟩
        simp only [AV.R] at hr
        obtain ⟨d1, d2, rfl, g1, g2⟩ := hr
        obtain ⟨c1, c2, c3, rfl, g3, g4⟩ := h2 g2
        exact ⟨d1 ++ c1, c2, c3, by simp, by simp [g1.length, g3]; omega, g4⟩
  | _ =>
    intro o t r h
    simp only [AV.at] at h
    split at h
    · rename_i hc
      simp only [Bool.and_eq_true] at hc
      obtain rfl := Option.some.inj h
      exact ⟨hc.2, fun {cs} hr => ⟨[], cs, [], by simp, (Nat.eq_of_beq_eq_true hc.1).symm ▸ rfl, hr⟩⟩
    · cases h

theorem Cells.of_block {b : Nat} {cs : List Value} {eid : TypeId} {fr : Nat × Nat} (h : w.heap[b]? = some (.cells cs.toArray eid fr)) : Cells w b 0 cs := fun j v hj => by
  simp [World.cell?, h, hj]

theorem Cells.mid {b o : Nat} {c1 c2 c3 : List Value} (h : Cells w b o (c1 ++ c2 ++ c3)) : Cells w b (o + c1.length) c2 :=
  (Cells.append.1 (Cells.append.1 h).1).2

/-- A cell of a slice of slices. -/
theorem Row.at1 {w : World} {eid : TypeId} {g o n c m : Nat} {hs : List Value} (h : Row w eid 1 (.slice (some ⟨g, o, none⟩) n c) m hs) {j : Nat} {v : Value} (hj : hs[j]? = some v) : Cells w g (o + j) [v] := by
  rcases h.2 with ⟨k2, _⟩ | ⟨g', o', cap, cur, k2, hg, hn, hm, hsz, htk⟩
  · cases k2
  · cases k2
    intro q u hq
    cases q with
    | succ q => simp at hq
    | zero =>
      simp only [List.getElem?_cons_zero, Option.some.injEq] at hq
      subst hq
      rw [← htk] at hj
      have hlt := (List.getElem?_eq_some_iff.1 hj).1
      rw [List.length_take] at hlt
      rw [List.getElem?_take_of_lt (Nat.lt_min.1 hlt).1, List.getElem?_drop] at hj
      simp only [World.cell?, hg, Option.isSome_none, Bool.false_eq_true, if_false, Nat.add_zero]
      rw [← Array.getElem?_toList]
      exact hj

theorem XT.row_at {j : Int} {o : Value} {hs : List Value} {a : Option Addr} {n c : Nat} (h0 : 0 ≤ j) (h : hs[j.toNat]? = some (.slice a n c)) : (XT.row j).at o hs = some (.slice a n c) := by
  simp only [XT.at, if_pos h0, h]

theorem XT.row_inv {j : Int} {o v : Value} {hs : List Value} (h : (XT.row j).at o hs = some v) : 0 ≤ j ∧ hs[j.toNat]? = some v ∧ ∃ a n c, v = .slice a n c := by
  simp only [XT.at] at h
  split at h
  · rename_i h0
    split at h
    · rename_i a n c h1
      obtain rfl := Option.some.inj h
      exact ⟨h0, h1, _, _, _, rfl⟩
    · cases h
  · cases h

theorem XT.cell_inv {j : Int} {o v : Value} {hs : List Value} (h : (XT.cell j).at o hs = some v) : ∃ g off n c, o = .slice (some ⟨g, off, none⟩) n c ∧ 0 ≤ j ∧ j < (n : Int) ∧ v = .pointer (some ⟨g, off + j.toNat, none⟩) := by
  simp only [XT.at] at h
  split at h
  · rename_i g off n c
    split at h
    · rename_i h0
      obtain rfl := Option.some.inj h
      exact ⟨g, off, n, c, rfl, h0.1, h0.2, rfl⟩
    · cases h
  · cases h

theorem XT.top_inv {o v : Value} {hs : List Value} (h : XT.top.at o hs = some v) : v = o ∧ ∃ a n c, v = .slice a n c := by
  simp only [XT.at] at h
  split at h
  · obtain rfl := Option.some.inj h; exact ⟨rfl, _, _, _, rfl⟩
  · cases h

include hT he hG in
theorem opLoad_sound (hp : Hp w S s.tab pl) {t : TypeId} {x : Operand} {v : SV} (h : opLoad C s G t x = some v) : ∃ u, (Instr.loadAt t (a.eval x)).run P w = .ok u w ∧ v.R w S s.tab pl u := by
  unfold opLoad at h
  split at h
  · rename_i e y e' hx hf
    split at h
    · rename_i hee; subst hee
      obtain rfl := Option.some.inj h
      obtain ⟨cs, h1, h2⟩ := av_sound he hG hx
      simp only [AV.R, Ty.R] at h1
      obtain ⟨b, o, rfl, hb, ces, hc, hr⟩ := h1
      obtain ⟨d, i, hi⟩ := thOk_find hT hf
      refine ⟨pack e.isAgg ces, ?_, ⟨ces, hr, rfl⟩⟩
      rw [h2]
      simp [pack, AV.isAgg, Ty.isAgg, Instr.loadAt, Instr.sureAddr, run_loadVar hi hr.length hc]
    · cases h
  · rename_i i off t' e hx hf
    split at h
    · rename_i c hb
      split at h
      · rename_i r hr
        obtain rfl := Option.some.inj h
        obtain ⟨cs, h1, h2⟩ := av_sound he hG hx
        simp only [AV.R] at h1
        obtain ⟨c', b, g1, g2, rfl⟩ := h1
        obtain ⟨d, ti, hi⟩ := thOk_find hT hf
        obtain ⟨b', cs', eid, g3, g4, g5⟩ := hp.ent i _ _ hb g2
        rw [Value.pointer.injEq] at g3
        simp only [Option.some.injEq, Addr.mk.injEq, and_true] at g3
        subst g3
        obtain ⟨k1, k2⟩ := AV.at_spec (w := w) (S := S) (pl := pl) (tab := s.tab) hr
        obtain ⟨c1, c2, c3, rfl, k3, k4⟩ := k2 g5
        have hag := AV.fits_agg k1
        refine ⟨pack r.isAgg c2, ?_, ⟨c2, k4, rfl⟩⟩
        have hcc := (Cells.of_block g4).mid
        rw [Nat.zero_add, k3] at hcc
        rw [h2, hag.1]
        simp [pack, AV.isAgg, Ty.isAgg, Instr.loadAt, Instr.sureAddr, run_loadVar hi (by rw [k4.length, hag.2]) hcc]
      · cases h
    · cases h
  · rename_i i j e e' hx hf
    split at h
    · rename_i eid e'' xs hb
      split at h
      · rename_i hee
        obtain ⟨rfl, rfl⟩ := hee
        obtain rfl := Option.some.inj h
        obtain ⟨cs, h1, h2⟩ := av_sound he hG hx
        simp only [AV.R] at h1
        obtain ⟨eid', xs', g, o, n, c, g1, g2, g3, g4, rfl⟩ := h1
        rw [hb] at g1
        simp only [Option.some.injEq, Ent.arr.injEq, heq_eq_eq] at g1
        obtain ⟨rfl, _, rfl⟩ := g1
        obtain ⟨d, ti, hi⟩ := thOk_find hT hf
        obtain ⟨css, ⟨k1, k2⟩, k3, k4⟩ := hp.ent i _ _ hb g2
        have hj : j.toNat < xs.length := by omega
        obtain ⟨cj, hcj⟩ : ∃ cj, css[j.toNat]? = some cj := ⟨css[j.toNat]'(by omega), List.getElem?_eq_getElem (by omega)⟩
        have hrj := k4 j.toNat cj xs[j.toNat] hcj (List.getElem?_eq_getElem hj)
        have hgd : xs.getD j.toNat e.df = xs[j.toNat] := by simp [List.getD, List.getElem?_eq_getElem hj]
        refine ⟨pack e.isAgg cj, ?_, ⟨cj, by rw [hgd]; exact hrj, rfl⟩⟩
        rcases k2 with ⟨k2, _⟩ | ⟨g', o', cap, cur, k2, hg, hn, hm, hsz, htk⟩
        · cases k2
        · simp only [Value.slice.injEq, Option.some.injEq, Addr.mk.injEq, and_true] at k2
          obtain ⟨⟨rfl, rfl⟩, rfl, rfl⟩ := k2
          have hcells : Cells w g (o + j.toNat * e.size) cj := by
            intro q v hq
            have hlen : ∀ (l : List (List Value)), (∀ (i : Nat) (cs : List Value), l[i]? = some cs → cs.length = e.size) → ∀ (m : Nat) (cm : List Value), l[m]? = some cm → ∀ q v, cm[q]? = some v → l.flatten[m * e.size + q]? = some v := by
              intro l
              induction l with
              | nil => intro _ m cm hm; simp at hm
              | cons c0 l ih =>
                intro hl m cm hm q v hq
                have h0 : c0.length = e.size := hl 0 c0 rfl
                cases m with
                | zero =>
                  simp at hm; subst hm
                  simp only [List.flatten_cons, Nat.zero_mul, Nat.zero_add]
                  rw [List.getElem?_append_left (List.getElem?_eq_some_iff.1 hq).1]; exact hq
                | succ m =>
                  simp only [List.flatten_cons]
                  rw [List.getElem?_append_right (by rw [h0, Nat.succ_mul]; omega), h0]
                  have := ih (fun i cs hi => hl (i + 1) cs (by simpa using hi)) m cm (by simpa using hm) q v hq
                  rw [← this]
                  congr 1
                  rw [Nat.succ_mul]; omega
            have hfl := hlen css (fun i cs hi => (k4 i cs (xs[i]'(by have := (List.getElem?_eq_some_iff.1 hi).1; omega)) hi (List.getElem?_eq_getElem (by have := (List.getElem?_eq_some_iff.1 hi).1; omega))).length) j.toNat cj hcj q v hq
            rw [← htk] at hfl
            have hfl' := List.getElem?_take_of_lt (l := cur.toList.drop o) (by
              have := (List.getElem?_eq_some_iff.1 hfl).1
              rw [List.length_take] at this
              exact (Nat.lt_min.1 this).1 : j.toNat * e.size + q < xs.length * e.size)
            rw [hfl'] at hfl
            rw [List.getElem?_drop] at hfl
            simp only [World.cell?, hg, Option.isSome_none, Bool.false_eq_true, if_false]
            rw [← Array.getElem?_toList, Nat.add_assoc]
            exact hfl
          rw [h2]
          simp [pack, AV.isAgg, Ty.isAgg, Instr.loadAt, Instr.sureAddr, run_loadVar hi hrj.length hcells]
      · cases h
    · cases h
  · rename_i i j e' hx hf
    split at h
    · rename_i eid0 eid e xss hb
      split at h
      · rename_i hee
        subst hee
        obtain rfl := Option.some.inj h
        obtain ⟨cs, h1, h2⟩ := av_sound he hG hx
        simp only [AV.R] at h1
        obtain ⟨_, _, _, _, outer, hs, c, g1, g2, g3, rfl⟩ := h1
        rw [hb] at g1
        cases g1
        obtain ⟨d, ti, hi⟩ := thOk_find hT hf
        obtain ⟨g, off, n, cap, rfl, hj0, hjn, rfl⟩ := XT.cell_inv g3
        have hr := hp.rows hb g2
        have hn : n = xss.length := hr.n.1
        have hlen : hs.length = xss.length := hr.len
        have hjl : j.toNat < hs.length := by omega
        have hjx : j.toNat < xss.length := by omega
        obtain ⟨⟨a1, n1, c1, hsl⟩, _⟩ := hr.rows j.toNat hs[j.toNat] xss[j.toNat] (List.getElem?_eq_getElem hjl) (List.getElem?_eq_getElem hjx)
        have k2 := hr.row
        have hcells := Row.at1 k2 (List.getElem?_eq_getElem hjl)
        refine ⟨hs[j.toNat], ?_, ⟨[hs[j.toNat]], ⟨eid0, eid, e, xss, _, hs, hs[j.toNat], hb, g2, ?_, rfl⟩, rfl⟩⟩
        · rw [h2]
          have hld := run_loadVar (P := P) hi (by simp [Ty.size]) hcells
          simp only [pack, AV.isAgg, Ty.isAgg, Instr.loadAt, Instr.sureAddr, Sem.run_bind, Sem.run_pure, Result.andThen_ok, List.headD_cons, Bool.false_eq_true, if_false] at hld ⊢
          exact hld
        · rw [hsl]
          exact XT.row_at hj0 (by rw [List.getElem?_eq_getElem hjl, hsl])
      · cases h
    · cases h
  · cases h

end ops

end Go.Lg
