/-
  The operations that leave the table alone, all of them.
-/
import Derived.Test.YtejfaifipdhecaaEng7
set_option linter.unusedVariables false
set_option linter.unusedSimpArgs false
namespace Go.Lg
open Go.RowKit

section ops
variable {P : Program} {C : Ctx} (hT : thOk P C = true) {w : World} {S : Nat → Prop} {s : St} {pl : List Value} {a : Act}
  (hp : Hp w S s.tab pl) (he : EnvR w S s.tab pl s.env a.tmps) {G : PC} (hG : Holds a.tmps G)

theorem Ty.fld_agg {t : Ty} {n : Nat} {r : Nat × Ty} (h : t.fld n = some r) : t.isAgg = true := by
  cases t <;> first | rfl | (cases n <;> simp [Ty.fld] at h)

theorem pack_one {cs : List Value} {b : Bool} (hb : b = false) {c : Value} (hc : cs = [c]) : pack b cs = c := by subst hb hc; rfl

include he hG in
theorem opNil_sound {t : TypeId} {x : Operand} {g : Option Bool} {v : SV} {pos : String} {af : Array Edge} {gd : Option (Nat × Bool)} {d : Option Tmp} (h : opNil s G x = some (g, v)) (hg : g ≠ some false) :
    ∃ u, (execOp a.eval ⟨d, .nilCheck x, t, pos, af, gd⟩).run P w = .ok (.value u) w ∧ v.R w S s.tab pl u := by
  unfold opNil at h
  split at h
  · rename_i e y hx
    simp only [Option.some.injEq, Prod.mk.injEq] at h
    obtain ⟨rfl, rfl⟩ := h
    obtain ⟨cs, h1, h2⟩ := av_sound he hG hx
    cases y with
    | none => exact absurd rfl hg
    | some y =>
      refine ⟨a.eval x, ?_, ⟨cs, h1, h2⟩⟩
      simp only [AV.R, Ty.R] at h1
      obtain ⟨b, o, rfl, _⟩ := h1
      rw [h2]
      simp only [execOp, h2]
      simp [pack, AV.isAgg, Ty.isAgg]
  · rename_i i o t' hx
    simp only [Option.some.injEq, Prod.mk.injEq] at h
    obtain ⟨rfl, rfl⟩ := h
    obtain ⟨cs, h1, h2⟩ := av_sound he hG hx
    refine ⟨a.eval x, ?_, ⟨cs, h1, h2⟩⟩
    simp only [AV.R] at h1
    obtain ⟨_, b, _, _, rfl⟩ := h1
    rw [h2]
    simp only [execOp, h2]
    simp [pack, AV.isAgg]
  · cases h

include hT in
theorem run_fieldPlace {b o : Nat} {fd : Field} {ft : Ty} (hf : find fd.type C.th = some ft) (hs : 0 < ft.size) :
    (fieldPlace ⟨b, o, none⟩ fd).run P w = .ok ⟨b, o + fd.offset, none⟩ w := by
  obtain ⟨d, i, hi⟩ := thOk_find hT hf
  unfold fieldPlace
  rw [Sem.run_bind, hi.sizeOf]
  have : ¬ ft.size = 0 := by omega
  simp [Result.andThen, this, Addr.add_lit]

include hT he hG in
theorem opFieldAddr_sound {t : TypeId} {x : Operand} {f : Nat} {v : SV} (h : opFieldAddr C s G t x f = some v) :
    ∃ u, (Instr.fieldAt t (a.eval x) f).run P w = .ok u w ∧ v.R w S s.tab pl u := by
  unfold opFieldAddr at h
  split at h
  · rename_i e y e' hx hf
    split at h
    · rename_i hee; subst hee
      split at h
      · rename_i o ft z hprj
        split at h
        · rename_i hsz
          obtain rfl := Option.some.inj h
          obtain ⟨cs, h1, h2⟩ := av_sound he hG hx
          simp only [AV.R, Ty.R] at h1
          obtain ⟨b, off, rfl, hb, ces, hc, hr⟩ := h1
          obtain ⟨d, i, hi⟩ := thOk_find hT hf
          obtain ⟨ft', z', hv, hfld, hspec⟩ := prj_spec (w := w) (S := S) hprj
          cases hv
          obtain ⟨fs, fd, rfl, hfs, hoff, htf⟩ := hi.field hfld
          obtain ⟨c1, c2, c3, rfl, hl, hr2⟩ := hspec hr
          refine ⟨.pointer (some ⟨b, off + fd.offset, none⟩), ?_, ⟨[_], ⟨b, off + fd.offset, rfl, hb, c2, ?_, hr2⟩, rfl⟩⟩
          · rw [h2]
            simp [pack, AV.isAgg, Ty.isAgg, Instr.fieldAt, run_underlying hi.under, hfs, Instr.sureAddr, run_fieldPlace hT htf (by rw [← Nat.blt_eq]; exact hsz)]
          · have := hc.mid
            rwa [hl, ← hoff] at this
        · cases h
      · cases h
    · cases h
  · rename_i i off t' e hx hf
    split at h
    · rename_i o ft hfld
      split at h
      · rename_i hsz
        obtain rfl := Option.some.inj h
        obtain ⟨cs, h1, h2⟩ := av_sound he hG hx
        simp only [AV.R] at h1
        obtain ⟨c', b, g1, g2, rfl⟩ := h1
        obtain ⟨d, ti, hi⟩ := thOk_find hT hf
        obtain ⟨fs, fd, rfl, hfs, hoff, htf⟩ := hi.field hfld
        refine ⟨.pointer (some ⟨b, off + fd.offset, none⟩), ?_, ⟨[_], ⟨c', b, g1, g2, by rw [hoff]⟩, rfl⟩⟩
        rw [h2]
        simp [pack, AV.isAgg, Ty.isAgg, Instr.fieldAt, run_underlying hi.under, hfs, Instr.sureAddr, run_fieldPlace hT htf (by rw [← Nat.blt_eq]; exact hsz)]
      · cases h
    · cases h
  · cases h

theorem nth_spec : ∀ {av : AV} {t : Ty} {n : Nat} {r : AV}, av.fits t = true → av.nth n = some r → ∃ o ft, t.fld n = some (o, ft) ∧ r.fits ft = true ∧
    ∀ {cs : List Value}, av.R w S s.tab pl cs → ∃ c1 c2 c3, cs = c1 ++ c2 ++ c3 ∧ c1.length = o ∧ r.R w S s.tab pl c2
  | .pr x y, .pair p q, 0, r, hf, h => by
    simp only [AV.fits, Bool.and_eq_true] at hf
    simp only [AV.nth, Option.some.injEq] at h
    subst h
    refine ⟨0, p, rfl, hf.1, fun {cs} hr => ?_⟩
    simp only [AV.R] at hr
    obtain ⟨c1, c2, rfl, h1, h2⟩ := hr
    exact ⟨[], c1, c2, by simp, rfl, h1⟩
  | .pr x y, .pair p q, n + 1, r, hf, h => by
    simp only [AV.fits, Bool.and_eq_true] at hf
    simp only [AV.nth] at h
    obtain ⟨o, ft, h1, h2, h3⟩ := nth_spec hf.2 h
    refine ⟨p.size + o, ft, by simp [Ty.fld, h1], h2, fun {cs} hr => ?_⟩
    simp only [AV.R] at hr
    obtain ⟨c1, c2, rfl, g1, g2⟩ := hr
    obtain ⟨d1, d2, d3, rfl, g3, g4⟩ := h3 g2
    exact ⟨c1 ++ d1, d2, d3, by simp, by simp [g1.length, g3, (AV.fits_agg hf.1).2], g4⟩
  | .val t x, t', n, r, hf, h => by
    simp only [AV.fits, Bool.and_eq_true, decide_eq_true_eq] at hf
    obtain ⟨rfl, hf⟩ := hf
    cases t <;> cases n <;> simp [AV.nth, Ty.prj, Ty.isAgg] at h hf
  | .un, _, _, _, _, h => by simp [AV.nth] at h
  | .nsl _ _, _, _, _, _, h => by simp [AV.nth] at h
  | .npt, _, _, _, _, h => by simp [AV.nth] at h
  | .own _, _, _, _, _, h => by simp [AV.nth] at h
  | .bx _ _ _, _, _, _, _, h => by simp [AV.nth] at h
  | .ela _ _ _, _, _, _, _, h => by simp [AV.nth] at h
  | .fn _ _, _, _, _, _, h => by simp [AV.nth] at h
  | .dd, _, _, _, _, h => by simp [AV.nth] at h
  | .ub _, _, _, _, _, h => by simp [AV.nth] at h
  | .pr _ _, .int _, _, _, h, _ => by simp [AV.fits] at h
  | .pr _ _, .bool, _, _, h, _ => by simp [AV.fits] at h
  | .pr _ _, .str, _, _, h, _ => by simp [AV.fits] at h
  | .pr _ _, .sl _, _, _, h, _ => by simp [AV.fits] at h
  | .pr _ _, .pt _, _, _, h, _ => by simp [AV.fits] at h
  | .pr _ _, .unit, _, _, h, _ => by simp [AV.fits] at h

include hT in
theorem run_part {id : TypeId} {t : Ty} (hf : find id C.th = some t) {c1 c2 c3 : List Value} (hl : c2.length = t.size) :
    (part id (c1 ++ c2 ++ c3).toArray c1.length).run P w = .ok (pack t.isAgg c2) w := by
  obtain ⟨d, i, hi⟩ := thOk_find hT hf
  unfold part
  rw [Sem.run_bind, hi.isAgg]
  cases ha : t.isAgg with
  | true =>
    simp only [Result.andThen_ok, if_true, Sem.run_bind, hi.sizeOf, Sem.run_pure, pack]
    congr 2
    apply Array.toList_inj.1
    simp only [List.extract_toArray]
    simp [List.extract, List.drop_append, ← hl]
  | false =>
    rw [Ty.size_one ha] at hl
    match c2, hl with
    | [c], _ => simp [Result.andThen, pack]

include hT he hG in
theorem opField_sound {t : TypeId} {x : Operand} {f : Nat} {v : SV} (h : opField C s G t x f = some v) :
    ∃ u, (Instr.field t (a.eval x) f).run P w = .ok u w ∧ v.R w S s.tab pl u := by
  unfold opField at h
  split at h
  · rename_i av e hx hf
    obtain ⟨cs, h1, h2⟩ := av_sound he hG hx
    obtain ⟨d, i, hi⟩ := thOk_find hT hf
    split at h
    · rename_i hfit
      split at h
      · rename_i r hr
        obtain rfl := Option.some.inj h
        obtain ⟨o, ft, hfld, hrf, hspec⟩ := nth_spec (w := w) (S := S) (s := s) (pl := pl) hfit hr
        obtain ⟨fs, fd, rfl, hfs, hoff, htf⟩ := hi.field hfld
        obtain ⟨c1, c2, c3, rfl, hl, hr2⟩ := hspec h1
        have hag := AV.fits_agg hrf
        have heag : e.isAgg = true := Ty.fld_agg hfld
        refine ⟨pack r.isAgg c2, ?_, ⟨c2, hr2, rfl⟩⟩
        rw [h2, (AV.fits_agg hfit).1, heag, hag.1]
        have hprt := run_part (w := w) hT htf (c1 := c1) (c2 := c2) (c3 := c3) (by rw [hr2.length, hag.2])
        rw [hl, ← hoff] at hprt
        simp only [pack, if_true, Instr.field, Sem.run_bind, run_underlying hi.under, Result.andThen_ok, hfs, asAgg, Sem.run_pure, hprt]
      · cases h
    · split at h
      · rename_i t' y _
        split at h
        · rename_i hte; subst hte
          split at h
          · rename_i o r hprj
            obtain rfl := Option.some.inj h
            simp only [castD, dif_pos] at hprj
            simp only [AV.R] at h1
            obtain ⟨ft, z, rfl, hfld, hspec⟩ := prj_spec (w := w) (S := S) hprj
            obtain ⟨fs, fd, rfl, hfs, hoff, htf⟩ := hi.field hfld
            obtain ⟨c1, c2, c3, rfl, hl, hr2⟩ := hspec h1
            have heag : t'.isAgg = true := Ty.fld_agg hfld
            refine ⟨pack ft.isAgg c2, ?_, ⟨c2, hr2, rfl⟩⟩
            rw [h2]
            have hprt := run_part (w := w) hT htf (c1 := c1) (c2 := c2) (c3 := c3) hr2.length
            rw [hl, ← hoff] at hprt
            simp only [AV.isAgg, heag, pack, if_true, Instr.field, Sem.run_bind, run_underlying hi.under, Result.andThen_ok, hfs, asAgg, Sem.run_pure, hprt]
          · cases h
        · cases h
      · cases h
  · cases h

theorem inb_true {i : Int} {n : Nat} (h : some (inb i n) ≠ some false) : 0 ≤ i ∧ i < (n : Int) := by
  unfold inb at h
  by_cases hh : 0 ≤ i ∧ i < (n : Int)
  · exact hh
  · rw [decide_eq_false hh] at h; exact absurd rfl h

include hT hp he hG in
theorem opIndexAddr_sound {t : TypeId} {x i : Operand} {g : Option Bool} {v : SV} (h : opIndexAddr C s G t x i = some (g, v)) (hg : g ≠ some false) :
    ∃ u, (Instr.indexAt t (a.eval x) (a.eval i)).run P w = .ok u w ∧ v.R w S s.tab pl u := by
  unfold opIndexAddr at h
  split at h
  · rename_i e xs k n e' hx hi hf
    split at h
    · rename_i hee; subst hee
      simp only [Option.some.injEq, Prod.mk.injEq] at h
      obtain ⟨rfl, rfl⟩ := h
      obtain ⟨h0, hn⟩ := inb_true hg
      obtain ⟨cs, h1, h2⟩ := av_sound he hG hx
      obtain ⟨ad, m, c, rfl, rfl, hc, hel⟩ := AV.R.val_sl h1
      obtain ⟨d, ti, hti⟩ := thOk_find hT hf
      obtain ⟨eid, rfl, hse, hth⟩ := hti.slice
      obtain ⟨d', ti', hti'⟩ := thOk_find hT hth
      rcases hel with rfl | ⟨b, o, rfl, hb, hel⟩
      · simp at hn; omega
      · have hlt : n.toNat < xs.length := by omega
        obtain ⟨ces, hc1, hc2⟩ := hel n.toNat xs[n.toNat] (List.getElem?_eq_getElem hlt)
        have hgd : xs.getD n.toNat e.df = xs[n.toNat] := by simp [List.getD, List.getElem?_eq_getElem hlt]
        refine ⟨.pointer (some ⟨b, o + n.toNat * e.size, none⟩), ?_, ⟨[_], ⟨b, _, rfl, hb, ces, hc1, by rw [hgd]; exact hc2⟩, rfl⟩⟩
        rw [h2, av_int he hG hi]
        simp [pack, AV.isAgg, Ty.isAgg, Instr.indexAt, asIntOf, run_underlying hti.under, h0, hn, hti'.sizeOf, Addr.add_lit, Result.andThen]
    · cases h
  · rename_i j k n e' hx hi hf
    split at h
    · rename_i eid e xs hb
      split at h
      · rename_i hee; subst hee
        simp only [Option.some.injEq, Prod.mk.injEq] at h
        obtain ⟨rfl, rfl⟩ := h
        obtain ⟨h0, hn⟩ := inb_true hg
        obtain ⟨cs, h1, h2⟩ := av_sound he hG hx
        simp only [AV.R] at h1
        obtain ⟨eid', e'', xs'', hv, g1, g2, ⟨ad, m, c, rfl⟩, rfl⟩ := h1
        obtain ⟨d, ti, hti⟩ := thOk_find hT hf
        obtain ⟨eid2, rfl, hse, hth⟩ := hti.slice
        obtain ⟨d', ti', hti'⟩ := thOk_find hT hth
        obtain ⟨css, ⟨k1, k2⟩, k3, k4⟩ := hp.ent j _ _ hb g2
        rcases k2 with ⟨k2, k2'⟩ | ⟨g', o', cap, cur, k2, hgg, hnn, hm, hsz, htk⟩
        · rw [k2'] at hn; simp at hn; omega
        · cases k2
          refine ⟨.pointer (some ⟨g', o' + n.toNat * e.size, none⟩), ?_, ⟨[_], ⟨eid, xs, g', o', _, _, hb, g2, h0, hn, rfl⟩, rfl⟩⟩
          rw [h2, av_int he hG hi]
          simp [pack, AV.isAgg, Ty.isAgg, Instr.indexAt, asIntOf, run_underlying hti.under, h0, hn, hti'.sizeOf, Addr.add_lit, Result.andThen]
      · cases h
    · cases h
  · rename_i j k n e' hx hi hf
    split at h
    · rename_i eid0 eid e xss hb
      split at h
      · rename_i hee; subst hee
        simp only [Option.some.injEq, Prod.mk.injEq] at h
        obtain ⟨rfl, rfl⟩ := h
        obtain ⟨h0, hn⟩ := inb_true hg
        obtain ⟨cs, h1, h2⟩ := av_sound he hG hx
        simp only [AV.R] at h1
        obtain ⟨_, _, _, _, outer, hs, c, g1, g2, g3, rfl⟩ := h1
        obtain ⟨rfl, ad, m, cp, rfl⟩ := XT.top_inv g3
        have hr := hp.rows hb g2
        obtain ⟨hm, hmc⟩ := hr.n
        obtain ⟨d, ti, hti⟩ := thOk_find hT hf
        obtain ⟨eid2, rfl, hse, hth⟩ := hti.slice
        obtain ⟨d', ti', hti'⟩ := thOk_find hT hth
        rcases hr.row.2 with ⟨k2, k2'⟩ | ⟨g', o', cap, cur, k2, hgg, hnn, hm', hsz, htk⟩
        · rw [k2'] at hn; simp at hn; omega
        · cases k2
          have hcell : (XT.cell n).at (.slice (some ⟨g', o', none⟩) xss.length cp) hs = some (.pointer (some ⟨g', o' + n.toNat, none⟩)) := by
            simp only [XT.at]; rw [if_pos ⟨h0, hn⟩]
          refine ⟨.pointer (some ⟨g', o' + n.toNat, none⟩), ?_, ⟨[_], ⟨eid0, eid, e, xss, _, hs, _, hb, g2, hcell, rfl⟩, rfl⟩⟩
          rw [h2, av_int he hG hi]
          simp [pack, AV.isAgg, Ty.isAgg, Instr.indexAt, asIntOf, run_underlying hti.under, h0, hn, hti'.sizeOf, Ty.size, Addr.add_lit, Result.andThen]
      · cases h
    · cases h
  · cases h

include hT he hG in
theorem opIndex_sound {t : TypeId} {x i : Operand} {g : Option Bool} {v : SV} (h : opIndex C s G t x i = some (g, v)) (hg : g ≠ some false) :
    ∃ u, (Instr.index t (a.eval x) (a.eval i)).run P w = .ok u w ∧ v.R w S s.tab pl u := by
  unfold opIndex at h
  split at h
  · rename_i b k n hx hi hf
    simp only [Option.some.injEq, Prod.mk.injEq] at h
    obtain ⟨rfl, rfl⟩ := h
    obtain ⟨h0, hn⟩ := inb_true hg
    obtain ⟨d, ti, hti⟩ := thOk_find hT hf
    have hd := hti.desc
    cases d <;> simp [descOk, Ty.isAgg] at hd
    have hlt : n.toNat < b.size := by omega
    refine ⟨.int .u8 (b[n.toNat]?.getD 0).toNat, ?_, sv_int⟩
    rw [av_str he hG hx, av_int he hG hi]
    have : b[n.toNat]? = some b[n.toNat] := by simp [hlt]
    simp [Instr.index, asIntOf, run_underlying hti.under, h0, this, Result.andThen]
  · cases h

include he hG in
theorem opExtract_sound {x : Operand} {ix : Nat} {v : SV} (h : opExtract s G x ix = some v) : ∃ u, (Instr.extract (a.eval x) ix).run P w = .ok u w ∧ v.R w S s.tab pl u := by
  unfold opExtract at h
  split at h
  · rename_i l hl
    split at h
    · rename_i b hb
      obtain rfl := Option.some.inj h
      obtain ⟨us, h1, h2, h3⟩ := get_sound he hG hl
      have hlt : ix < us.length := by have := (List.getElem?_eq_some_iff.1 hb).1; omega
      obtain ⟨cs, h4, h5⟩ := h3 ix b us[ix] hb (List.getElem?_eq_getElem hlt)
      refine ⟨us[ix], ?_, ⟨cs, h4, h5⟩⟩
      rw [h1]
      simp [Instr.extract, List.getElem?_eq_getElem hlt]
    · cases h
  · cases h

include he hG in
theorem bound_sound {x : Option Operand} {d n : Int} (h : bound s G x d = some n) : (x = none ∧ n = d) ∨ ∃ y k, x = some y ∧ a.eval y = .int k n := by
  cases x with
  | none => exact .inl ⟨rfl, (Option.some.inj h).symm⟩
  | some y =>
    simp only [bound] at h
    split at h
    · rename_i k m hm
      obtain rfl := Option.some.inj h
      exact .inr ⟨y, k, rfl, av_int he hG hm⟩
    · cases h

theorem run_sliceBound {k : IntKind} {n : Int} {y : Nat} {code : BoundsCode} (h0 : 0 ≤ n) (h : n ≤ (y : Int)) : (Instr.sliceBound (.int k n) y code).run P w = .ok n.toNat w := by
  simp [Instr.sliceBound, asIntOf, h0, h]

include he hG in
theorem run_bounds {isS : Bool} {len cap : Nat} {lo hi : Option Operand} {l h : Int} (hl : bound s G lo 0 = some l) (hh : bound s G hi len = some h) (h0 : 0 ≤ l) (h1 : l ≤ h) (h2 : h ≤ (len : Int)) (hc : len ≤ cap) :
    (Instr.sliceBounds isS len cap (lo.map a.eval) (hi.map a.eval) none).run P w = .ok (l.toNat, h.toNat, cap) w := by
  have e1 : ∀ (k : IntKind) (c : BoundsCode), (Instr.sliceBound (.int k h) cap c).run P w = .ok h.toNat w := fun k c => run_sliceBound (by omega) (by omega)
  have e2 : ∀ (k : IntKind) (c : BoundsCode), (Instr.sliceBound (.int k l) h.toNat c).run P w = .ok l.toNat w := fun k c => run_sliceBound h0 (by omega)
  rcases bound_sound he hG hh with ⟨rfl, rfl⟩ | ⟨y, k, rfl, hy⟩ <;> rcases bound_sound he hG hl with ⟨rfl, rfl⟩ | ⟨z, k', rfl, hz⟩
  · simp only [Instr.sliceBounds, Option.map_none, Sem.run_bind, Sem.run_pure, Result.andThen_ok]; rfl
  · simp only [Instr.sliceBounds, Option.map_none, Option.map_some, hz, Sem.run_bind, Sem.run_pure, Result.andThen_ok]
    have := e2 k' .sliceB
    simp only [Int.toNat_natCast] at this
    simp [this, Result.andThen]
  · simp only [Instr.sliceBounds, Option.map_none, Option.map_some, hy, Sem.run_bind, Sem.run_pure, Result.andThen_ok, e1]; rfl
  · simp only [Instr.sliceBounds, Option.map_some, hy, hz, Sem.run_bind, Sem.run_pure, Result.andThen_ok, e1]
    simp [e2, Result.andThen]

include hT he hG in
theorem opSlice_sound {t : TypeId} {x : Operand} {lo hi : Option Operand} {g : Option Bool} {v : SV} (h : opSlice C s G t x lo hi = some (g, v)) (hg : g ≠ some false) :
    ∃ u, (Instr.sliceAt t (a.eval x) (lo.map a.eval) (hi.map a.eval) none).run P w = .ok u w ∧ v.R w S s.tab pl u := by
  unfold opSlice at h
  split at h
  · rename_i e xs e' hx hf
    split at h
    · rename_i hee; subst hee
      split at h
      · rename_i l hh hl hhi
        simp only [Option.some.injEq, Prod.mk.injEq] at h
        obtain ⟨rfl, rfl⟩ := h
        have hb : 0 ≤ l ∧ l ≤ hh ∧ hh ≤ (xs.length : Int) := by
          by_cases hq : 0 ≤ l ∧ l ≤ hh ∧ hh ≤ (xs.length : Int)
          · exact hq
          · rw [decide_eq_false hq] at hg; exact absurd rfl hg
        obtain ⟨h0, h1, h2⟩ := hb
        obtain ⟨cs, g1, g2⟩ := av_sound he hG hx
        obtain ⟨ad, m, c, rfl, rfl, hc, hel⟩ := AV.R.val_sl g1
        obtain ⟨d, ti, hti⟩ := thOk_find hT hf
        obtain ⟨eid, rfl, hse, hth⟩ := hti.slice
        obtain ⟨d', ti', hti'⟩ := thOk_find hT hth
        have hrb := run_bounds (P := P) (w := w) (isS := true) he hG hl hhi h0 h1 h2 hc
        refine ⟨.slice (if c = l.toNat then ad else ad.map (·.add (l.toNat * e.size))) (hh.toNat - l.toNat) (c - l.toNat), ?_, ⟨[_], ?_, rfl⟩⟩
        · rw [g2]
          simp only [pack, AV.isAgg, Ty.isAgg, Bool.false_eq_true, if_false, List.headD_cons, Instr.sliceAt, Sem.run_bind, run_underlying hti.under, Result.andThen_ok, Instr.slice, hrb, hti'.sizeOf, Sem.run_pure]
        · refine ⟨_, _, _, rfl, by simp; omega, by omega, ?_⟩
          rcases hel with rfl | ⟨b, o, rfl, hb, hel⟩
          · simp
          · by_cases hcl : c = l.toNat
            · left
              apply List.eq_nil_of_length_eq_zero
              simp; omega
            · right
              refine ⟨b, o + l.toNat * e.size, by simp [hcl, Addr.add_lit], hb, fun i y hy => ?_⟩
              rw [List.getElem?_drop, List.getElem?_take] at hy
              split at hy
              · obtain ⟨ces, hc1, hc2⟩ := hel _ y hy
                exact ⟨ces, by rw [Nat.add_assoc, ← Nat.add_mul]; exact hc1, hc2⟩
              · cases hy
      · cases h
    · cases h
  · rename_i b hx hf
    split at h
    · rename_i l hh hl hhi
      simp only [Option.some.injEq, Prod.mk.injEq] at h
      obtain ⟨rfl, rfl⟩ := h
      have hb : 0 ≤ l ∧ l ≤ hh ∧ hh ≤ (b.size : Int) := by
        by_cases hq : 0 ≤ l ∧ l ≤ hh ∧ hh ≤ (b.size : Int)
        · exact hq
        · rw [decide_eq_false hq] at hg; exact absurd rfl hg
      obtain ⟨h0, h1, h2⟩ := hb
      obtain ⟨d, ti, hti⟩ := thOk_find hT hf
      have hd := hti.desc
      cases d <;> simp [descOk, Ty.isAgg] at hd
      have hrb := run_bounds (P := P) (w := w) (isS := false) he hG hl hhi h0 h1 h2 (Nat.le_refl b.size)
      refine ⟨.string (b.extract l.toNat hh.toNat), ?_, sv_str⟩
      rw [av_str he hG hx]
      simp only [Instr.sliceAt, Sem.run_bind, run_underlying hti.under, Result.andThen_ok, Instr.slice, Option.isSome_none, Bool.false_eq_true, if_false, hrb, Sem.run_pure]
    · cases h
  · cases h

include hT hp he hG in
theorem opLen_sound {t ty : TypeId} {x : Operand} {v : SV} (h : opLen C s G t x = some v) : ∃ u, (Builtin.len_ #[t] ty #[a.eval x]).run P w = .ok u w ∧ v.R w S s.tab pl u := by
  unfold opLen at h
  have sl : ∀ {e : Ty} {ad : Option Addr} {n c : Nat}, find t C.th = some (.sl e) → (Builtin.len_ #[t] ty #[.slice ad n c]).run P w = .ok (.int .i64 n) w := fun {e ad n c} hf => by
    obtain ⟨d, ti, hti⟩ := thOk_find hT hf
    obtain ⟨eid, rfl, hse, hth⟩ := hti.slice
    simp [Builtin.len_, run_underlying hti.under, goInt, Result.andThen]
  split at h
  · rename_i e xs e' hx hf
    obtain rfl := Option.some.inj h
    obtain ⟨cs, h1, h2⟩ := av_sound he hG hx
    obtain ⟨ad, m, c, rfl, rfl, hc, hel⟩ := AV.R.val_sl h1
    exact ⟨.int .i64 xs.length, by rw [h2]; exact sl hf, sv_int⟩
  · rename_i b hx hf
    obtain rfl := Option.some.inj h
    obtain ⟨d, ti, hti⟩ := thOk_find hT hf
    have hd := hti.desc
    cases d <;> simp [descOk, Ty.isAgg] at hd
    refine ⟨.int .i64 b.size, ?_, sv_int⟩
    rw [av_str he hG hx]
    simp [Builtin.len_, run_underlying hti.under, goInt, Result.andThen]
  · rename_i e hx hf
    obtain rfl := Option.some.inj h
    obtain ⟨cs, h1, h2⟩ := av_sound he hG hx
    simp only [AV.R] at h1
    subst h1
    exact ⟨.int .i64 0, by rw [h2]; exact sl hf, sv_int⟩
  · rename_i j e hx hf
    split at h
    · rename_i eid e xs hb
      obtain rfl := Option.some.inj h
      obtain ⟨cs, h1, h2⟩ := av_sound he hG hx
      simp only [AV.R] at h1
      obtain ⟨eid', e'', xs'', hv, g1, g2, ⟨ad, m, c, rfl⟩, rfl⟩ := h1
      obtain ⟨css, ⟨k1, k2⟩, k3, k4⟩ := hp.ent j _ _ hb g2
      have hm : m = xs.length := by
        rcases k2 with ⟨k2, k2'⟩ | ⟨g', o', cap, cur, k2, _⟩
        · cases k2; omega
        · cases k2; rfl
      subst hm
      exact ⟨.int .i64 xs.length, by rw [h2]; exact sl hf, sv_int⟩
    · cases h
  · rename_i j e hx hf
    split at h
    · rename_i eid0 eid e xss hb
      obtain rfl := Option.some.inj h
      obtain ⟨cs, h1, h2⟩ := av_sound he hG hx
      simp only [AV.R] at h1
      obtain ⟨_, _, _, _, outer, hs, c, g1, g2, g3, rfl⟩ := h1
      obtain ⟨rfl, ad, m, cp, rfl⟩ := XT.top_inv g3
      obtain ⟨hm, _⟩ := (hp.rows hb g2).n
      subst hm
      exact ⟨.int .i64 xss.length, by rw [h2]; exact sl hf, sv_int⟩
    · cases h
  · cases h

include he hG in
theorem opMinMax_sound {mx : Bool} {ts : Array TypeId} {ty : TypeId} {x y : Operand} {v : SV} (h : opMinMax s G mx x y = some v) :
    ∃ u, (match mx with | true => Builtin.max_ ts ty #[a.eval x, a.eval y] | false => Builtin.min_ ts ty #[a.eval x, a.eval y]).run P w = .ok u w ∧ v.R w S s.tab pl u := by
  unfold opMinMax at h
  split at h
  · rename_i k p k' q hx hy
    split at h
    · obtain rfl := Option.some.inj h
      rw [av_int he hG hx, av_int he hG hy]
      cases mx with
      | true => exact ⟨.int k (max p q), by simp [Builtin.max_, Builtin.max2]; omega, sv_int⟩
      | false => exact ⟨.int k (min p q), by simp [Builtin.min_, Builtin.min2]; omega, sv_int⟩
    · cases h
  · cases h

include hT he hG in
theorem opConvert_sound {src dst : TypeId} {x : Operand} {v : SV} (h : opConvert C s G src dst x = some v) : ∃ u, (convert src dst (a.eval x)).run P w = .ok u w ∧ v.R w S s.tab pl u := by
  unfold opConvert at h
  split at h
  · rename_i k n k1 k2 hx hs hd
    split at h
    · rename_i hk; subst hk
      obtain rfl := Option.some.inj h
      obtain ⟨d, i, hi⟩ := thOk_find hT hs
      obtain ⟨d', i', hi'⟩ := thOk_find hT hd
      have e1 := hi.desc
      have e2 := hi'.desc
      cases d <;> simp [descOk, Ty.isAgg] at e1
      cases d' <;> simp [descOk, Ty.isAgg] at e2
      subst e1 e2
      rw [av_int he hG hx]
      refine ⟨.int _ _, ?_, sv_int⟩
      simp [convert, run_underlying hi.under, run_underlying hi'.under, Conv.intToInt, Result.andThen]
    · cases h
  · cases h

include he hG in
theorem caps_sound : ∀ {xs : List Operand} {l : List (Nat × Ty)}, capsOf s G xs = some l → (xs.map a.eval).length = l.length ∧
    ∀ (k i : Nat) (t : Ty), l[k]? = some (i, t) → ∃ (c : AV) (b : Nat), s.tab[i]? = some (Ent.box c) ∧ pl[i]? = some (Value.pointer (some ⟨b, 0, none⟩)) ∧ (xs.map a.eval)[k]? = some (Value.pointer (some ⟨b, 0, none⟩))
  | [], l, h => by
    simp only [capsOf, Option.some.injEq] at h
    subst h
    exact ⟨rfl, fun k i t hk => by simp at hk⟩
  | x :: r, l, h => by
    simp only [capsOf] at h
    split at h
    · rename_i i t l' hx hr
      obtain rfl := Option.some.inj h
      obtain ⟨h1, h2⟩ := caps_sound hr
      obtain ⟨cs, g1, g2⟩ := av_sound he hG hx
      simp only [AV.R] at g1
      obtain ⟨c, b, g3, g4, rfl⟩ := g1
      refine ⟨by simpa using h1, fun k j t' hk => ?_⟩
      cases k with
      | zero =>
        simp only [List.getElem?_cons_zero, Option.some.injEq, Prod.mk.injEq] at hk
        obtain ⟨rfl, rfl⟩ := hk
        exact ⟨c, b, g3, g4, by simp only [List.map_cons, List.getElem?_cons_zero, g2]; rfl⟩
      | succ k => exact h2 k j t' (by simpa using hk)
    · cases h

/-- All of them at once. -/
theorem pureOp_sound (hT : thOk P C = true) (hp : Hp w S s.tab pl) (he : EnvR w S s.tab pl s.env a.tmps) (hG : Holds a.tmps G) {o : Oper} {g : Option Bool} {v : SV}
    (h : pureOp C s G o = some (g, v)) (hg : g ≠ some false) : ∃ u, (execOp a.eval o).run P w = .ok (.value u) w ∧ v.R w S s.tab pl u := by
  obtain ⟨dst, op, ty, pos, af, gd⟩ := o
  have lift : ∀ {x : Sem Value}, (∃ u, x.run P w = .ok u w ∧ v.R w S s.tab pl u) → ∃ u, (do pure (Next.value (← x)) : Sem Next).run P w = .ok (.value u) w ∧ v.R w S s.tab pl u := fun ⟨u, h1, h2⟩ =>
    ⟨u, by simp only [Sem.run_bind, h1, Result.andThen_ok, Sem.run_pure], h2⟩
  have hsure : ∀ {x : Option SV}, sure x = some (g, v) → x = some v := fun {x} hx => by
    unfold sure at hx
    split at hx
    · simp only [Option.some.injEq, Prod.mk.injEq] at hx; rw [hx.2]
    · cases hx
  unfold pureOp at h
  simp only at h
  split at h
  · exact ⟨_, by simp only [execOp, Sem.run_pure], opMove_sound he hG (hsure h)⟩
  · exact ⟨_, by simp only [execOp, Sem.run_pure], opMove_sound he hG (hsure h)⟩
  · exact lift (opBin_sound hT he hG h hg)
  · exact lift (opUn_sound he hG (hsure h))
  · obtain ⟨u, h1, h2⟩ := opPick_sound (P := P) (w := w) he hG (hsure h)
    refine ⟨u, ?_, h2⟩
    simp only [execOp, Sem.run_bind, Sem.run_pure] at h1 ⊢
    revert h1
    generalize (asBool _).run P w = r
    cases r with
    | ok b w' => simp only [Result.andThen_ok]; intro h1; simp only [Result.ok.injEq] at h1 ⊢; exact ⟨by rw [h1.1], h1.2⟩
    | halt => intro h1; simp [Result.andThen] at h1
  · exact lift (opLoad_sound hT he hG hp (hsure h))
  · exact opNil_sound he hG h hg
  · exact lift (opFieldAddr_sound hT he hG (hsure h))
  · exact lift (opField_sound hT he hG (hsure h))
  · exact lift (opIndexAddr_sound hT hp he hG h hg)
  · exact lift (opIndex_sound hT he hG h hg)
  · exact lift (opExtract_sound he hG (hsure h))
  · rename_i f first caps
    split at h
    · rename_i hfirst
      split at h
      · rename_i l hl
        simp only [Option.some.injEq, Prod.mk.injEq] at h
        obtain ⟨rfl, rfl⟩ := h
        obtain ⟨h1, h2⟩ := caps_sound (pl := pl) he hG hl
        have hf0 : first = #[] := by apply Array.toList_inj.1; simpa using hfirst
        subst hf0
        refine ⟨.func (.func f) #[] (caps.map a.eval), by simp [execOp, Instr.makeFunc], ⟨[_], ⟨caps.toList.map a.eval, by rw [← Array.toList_map], h1, h2⟩, rfl⟩⟩
      · cases h
    · cases h
  · exact lift (opSlice_sound hT he hG h hg)
  · rename_i args tys
    split at h
    · rename_i x t hargs htys
      have ha : args = #[x] := by apply Array.toList_inj.1; simpa using hargs
      have ht : tys = #[t] := by apply Array.toList_inj.1; simpa using htys
      subst ha ht
      obtain ⟨u, h1, h2⟩ := opLen_sound (P := P) (ty := ty) hT hp he hG (hsure h)
      exact ⟨u, by simp only [execOp, resolve, invoke, builtin, Sem.run_bind, Sem.run_pure, Result.andThen_ok, List.map_toArray, List.map_cons, List.map_nil, h1], h2⟩
    · cases h
  · rename_i args tys
    split at h
    · rename_i x y hargs
      have ha : args = #[x, y] := by apply Array.toList_inj.1; simpa using hargs
      subst ha
      obtain ⟨u, h1, h2⟩ := opMinMax_sound (P := P) (w := w) (mx := true) (ts := tys) (ty := ty) he hG (hsure h)
      simp only at h1
      exact ⟨u, by simp only [execOp, resolve, invoke, builtin, Sem.run_bind, Sem.run_pure, Result.andThen_ok, List.map_toArray, List.map_cons, List.map_nil, h1], h2⟩
    · cases h
  · rename_i args tys
    split at h
    · rename_i x y hargs
      have ha : args = #[x, y] := by apply Array.toList_inj.1; simpa using hargs
      subst ha
      obtain ⟨u, h1, h2⟩ := opMinMax_sound (P := P) (w := w) (mx := false) (ts := tys) (ty := ty) he hG (hsure h)
      simp only at h1
      exact ⟨u, by simp only [execOp, resolve, invoke, builtin, Sem.run_bind, Sem.run_pure, Result.andThen_ok, List.map_toArray, List.map_cons, List.map_nil, h1], h2⟩
    · cases h
  · exact lift (opConvert_sound hT he hG (hsure h))
  · rename_i t parts
    obtain ⟨u, h1, h2⟩ := opBuild_sound hT he hG (hsure h)
    refine lift ⟨u, ?_, h2⟩
    rw [← h1]
    congr 2
    apply Array.toList_inj.1
    simp
  · cases h

end ops

end Go.Lg
