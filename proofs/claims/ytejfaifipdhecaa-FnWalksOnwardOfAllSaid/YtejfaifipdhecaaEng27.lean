/-
  From the interpreter's answer to what a function's caller may rely on.
-/
import Derived.Test.YtejfaifipdhecaaEng26
set_option linter.unusedVariables false
set_option linter.unusedSimpArgs false
namespace Go.Lg
open Go.RowKit

section
variable {P : Program} {C : Ctx}

theorem meets_pure {f : FuncId} {fn : Func} {body : Code} {ins res : Sh} {many : Bool} (hF : Fits P C f fn body ins res many) (hS : Sigs P C) (hp : ins.pure = true) {g : ins.T → Option res.T}
    (h : ∀ x, runPure C body fn.results.toList many ins res x = g x) : Meets P f ⟨ins, res, many, .inl g⟩ := by
  refine ⟨hF.go, hF.chain, hp, fun x r hg => ?_⟩
  have hrun := (h x).trans hg
  unfold runPure at hrun
  have he0 : ∀ n, (ins.enc x n).2 = [] := fun n => enc_pure hp x n
  have hn0 := Sh.pure_n hp
  refine does_of_run hF hS hrun fun e s hk => ?_
  unfold finPure at hk
  split at hk
  · rename_i l hends hl
    refine ⟨hends, fun {w S pl a w'} hpw hok => ?_⟩
    split at hk
    · rename_i av hav
      split at hk
      · rename_i r' idx lents hd
        split at hk
        · rename_i hck
          obtain rfl := Option.some.inj hk
          simp only [Bool.and_eq_true] at hck
          obtain ⟨hnd, hap⟩ := hck
          obtain ⟨⟨S1, pl0, hi0⟩, hu⟩ := hok
          obtain ⟨pl1, hi, hres⟩ := results_sound hF.th hi0 hl hav (fun hm => by have := hF.many; rw [hm] at this; simpa using this)
          have hap' : ∀ i ∈ lents, i ∉ idx := fun i hil => has_false (by simp only [apart, List.all_eq_true, Bool.not_eq_true'] at hap; exact hap i hil)
          obtain ⟨q1, q2, q3⟩ := hand_hp hi.hp hd hnd hap'
          have hdec := (dec_sound (tc := (res.enc r' 0).2) (plc := handed pl1 idx) hi.hp hd (n := 0)).2.1
          obtain ⟨v, hv1, hv2⟩ := hres hd (At.mk hi.hp hdec)
          have hm0 : C.m = 0 := hF.m.trans hn0
          refine ⟨v, hv1, fun b => S1 b ∨ Lent (s.tab ++ (matR many s.tab res l).2) pl1 lents b, handed pl1 idx, ?_, ?_, hi.fr, fun b hb => .inl (hi.up b hb), fun b hb => ?_, fun i b ho => ?_, fun i b _ ho => ?_, fun k hk => ?_⟩
          · rw [he0, List.nil_append, hn0]; exact q1
          · rw [he0, List.nil_append, hn0]; exact hv2
          · rcases hb with hb | ⟨i, _, ho⟩
            · exact hi.sub b hb
            · exact .inr (hi.fresh i b (by omega) ho)
          · rw [he0, List.nil_append, hn0] at ho
            obtain ⟨j, _, ho'⟩ := q2 i b ho
            exact hi.own j b ho'
          · rw [he0, List.nil_append, hn0] at ho
            obtain ⟨j, _, ho'⟩ := q2 i b ho
            exact hi.fresh j b (by omega) ho'
          · have := fx_lt hk; omega
        · cases hk
      · cases hk
    · cases hk
  · cases hk

theorem meets_eff {f : FuncId} {fn : Func} {body : Code} {ins res : Sh} {many : Bool} (hF : Fits P C f fn body ins res many) (hS : Sigs P C) {g : ins.T → Option (res.T × ins.T)}
    (h : ∀ x, runEff C body fn.results.toList many ins res x = g x) : Meets P f ⟨ins, res, many, .inr g⟩ := by
  refine ⟨hF.go, hF.chain, rfl, fun x r x' hg => ?_⟩
  have hrun := (h x).trans hg
  unfold runEff at hrun
  refine does_of_run hF hS hrun fun e s hk => ?_
  unfold finEff at hk
  split at hk
  · rename_i l hends hl
    refine ⟨hends, fun {w S pl a w'} hpw hok => ?_⟩
    split at hk
    · rename_i av hav
      split at hk
      · rename_i p idx lents hd
        split at hk
        · rename_i hck
          obtain ⟨y, z⟩ := p
          simp only [Option.some.injEq, Prod.mk.injEq] at hk
          obtain ⟨rfl, rfl⟩ := hk
          simp only [Bool.and_eq_true, List.all_eq_true] at hck
          obtain ⟨⟨⟨⟨hnd, hap⟩, hle⟩, hdr⟩, hfx⟩ := hck
          obtain ⟨⟨S1, pl00, hi00⟩, hu⟩ := hok
          obtain ⟨pl0, hi0, _⟩ := matsAt_sound (List.range C.m) hi00.drop
          obtain ⟨pl1, hi, hres⟩ := results_sound hF.th hi0 hl hav (fun hm => by have := hF.many; rw [hm] at this; simpa using this)
          have hap' : ∀ i ∈ lents, i ∉ idx := fun i hil => has_false (by simp only [apart, List.all_eq_true, Bool.not_eq_true'] at hap; exact hap i hil)
          obtain ⟨q1, q2, q3⟩ := hand_hp hi.hp hd hnd hap'
          have hdec := (dec_sound (tc := ((Sh.pr ins res).enc (y, z) 0).2) (plc := handed pl1 idx) hi.hp hd (n := 0)).2.1
          have hat : At (Sh.pr ins res) (y, z) 0 idx pl1 ((Sh.pr ins res).enc (y, z) 0).2 (handed pl1 idx) := At.mk hi.hp hdec
          -- the parts
          have hd' := hd
          simp only [Sh.dec] at hd'
          split at hd'
          · rename_i u v hu1 hv1
            obtain ⟨u1, u2, u3⟩ := u
            obtain ⟨v1, v2, v3⟩ := v
            simp only [Option.some.injEq, Prod.mk.injEq] at hd'
            obtain ⟨⟨rfl, rfl⟩, rfl, rfl⟩ := hd'
            have hlen1 : u2.length = ins.n := (dec_sound (tc := []) (plc := []) hi.hp hu1 (n := 0)).1
            have htab : ((Sh.pr ins res).enc (u1, v1) 0).2 = (ins.enc u1 0).2 ++ (res.enc v1 ins.n).2 := by
              simp only [Sh.enc, Sh.enc_length, Nat.zero_add]
            rw [htab] at hat q1 q2 q3
            have hat2 : At res v1 ins.n v2 pl1 ((ins.enc u1 0).2 ++ (res.enc v1 ins.n).2) (handed pl1 (u2 ++ v2)) := fun j hj => by
              obtain ⟨g1, g2⟩ := hat (ins.n + j) (by simp only [Sh.n]; omega)
              rw [Nat.zero_add] at g1 g2
              refine ⟨?_, fun i' hi' => g2 i' (by rw [List.getElem?_append_right (by omega), hlen1, Nat.add_sub_cancel_left]; exact hi')⟩
              rw [List.getElem?_append_right (by rw [Sh.enc_length]; omega), Sh.enc_length, Nat.add_sub_cancel_left]
            obtain ⟨v, hv1', hv2⟩ := hres hv1 hat2
            refine ⟨v, hv1', fun b => S1 b ∨ Lent ((matsAt (List.range C.m) s.tab) ++ (matR many (matsAt (List.range C.m) s.tab) res l).2) pl1 (u3 ++ v3) b, handed pl1 (u2 ++ v2), q1, ?_, hi.fr, fun b hb => .inl (hi.up b hb), fun b hb => ?_, fun i b ho => ?_, fun i b hni ho => ?_, fun k hk hv hpk => ?_⟩
            · exact hv2.keep (fun b hb _ => ⟨hb.imp id fun ⟨i, h1, h2⟩ => ⟨i, List.mem_append_right _ h1, h2⟩, rfl⟩) (fun b hb => hb.elim (hi.hp.stable b) fun ⟨i, _, ho⟩ => hi.hp.lt ho) (Keep.refl _ _)
            · rcases hb with hb | ⟨i, hil, ho⟩
              · exact hi.sub b hb
              · exact .inr (hi.fresh i b (Nat.le_of_ble_eq_true (hle i hil)) ho)
            · obtain ⟨j, _, ho'⟩ := q2 i b ho
              exact hi.own j b ho'
            · obtain ⟨j, hj, ho'⟩ := q2 i b ho
              refine hi.fresh j b (Nat.le_of_ble_eq_true (hdr j ?_)) ho'
              have : ((u2 ++ v2).drop ins.n)[i - ins.n]? = some j := by rw [List.getElem?_drop, show ins.n + (i - ins.n) = i by omega]; exact hj
              exact List.mem_of_getElem? this
            · have hkx := Nat.eq_of_beq_eq_true (hfx k hk)
              have hkn := fx_lt hk
              have hki : (u2 ++ v2)[k]? = some k := by
                have hlt : k < (u2 ++ v2).length := by rw [List.length_append]; omega
                simp only [nth, List.getD_eq_getElem?_getD, List.getElem?_eq_getElem hlt, Option.getD_some] at hkx
                rw [List.getElem?_eq_getElem hlt, hkx]
              rw [handed_at hi.hp hdec hki]
              exact hi.fix k (by rw [hF.fx]; exact hk) hv hpk
          · cases hd'
        · cases hk
      · cases hk
    · cases hk
  · cases hk

/-- Nothing is promised of a function that gives nothing. -/
theorem meets_none {f : FuncId} {fn : Func} {body : Code} {ins res : Sh} {many : Bool} (hF : Fits P C f fn body ins res many) (hp : ins.pure = true) : Meets P f ⟨ins, res, many, .inl fun _ => none⟩ :=
  ⟨hF.go, hF.chain, hp, fun x r h => by cases h⟩

theorem meets_noneE {f : FuncId} {fn : Func} {body : Code} {ins res : Sh} {many : Bool} (hF : Fits P C f fn body ins res many) : Meets P f ⟨ins, res, many, .inr fun _ => none⟩ :=
  ⟨hF.go, hF.chain, rfl, fun x r x' h => by cases h⟩

theorem sigs_nil (h : C.sg = []) : Sigs P C := fun fid sp hf => by rw [h] at hf; simp [find] at hf

end
end Go.Lg
