/- THE LAW WorldRuns: what is proved here: the statement Rows.WorldRunsCardSaid (the row, and its tie to the program's text). -/
import Derived.Test.YtgaegoefbekndaaGreatDoorWB9
set_option linter.unusedSimpArgs false
set_option maxRecDepth 100000
set_option linter.unusedVariables false
namespace Go.Proofs.YtgaegoefbekndaaGreatDoor.worldRunsLaw
open Go Go.Proofs Go.Vg
open Go.ChangeShapes Go.WideShapes Go.ChangeAt Go.RowKit
theorem lifted(os:Os)(started:os.Started)(HH:Type)(dk:TypeId×Value→HH)(F:Stop.Interp):
    ReturnsInHanded {} Tryz.checked os 9 .any ((OpenSpec.ofChange Rows.worldRunsSpec).preRow dk Tryz.prog Tryz.f9 Rows.worldRunsRow.domain false Rows.worldRunsRow.laid) (((OpenSpec.ofChange Rows.worldRunsSpec).at F).post dk Tryz.prog Tryz.f9 false true false false):=by
  refine returnsInHanded_of_row (C:= Tryz.checked) (s:=OpenSpec.ofChange Rows.worldRunsSpec) Tryzown started (by kernel_rfl) Tryz.func9
    (ChangeSpec.witness_shaped (enc:=dk) (C:= Tryz.checked) (os:=os) (X:=fun w _=>laidMetH Tryz.prog Rows.worldRunsRow.laid w) false (rX os) #[(.agg #[i64 0,.slice none 0 0,.slice none 0 0,.slice none 0 0,i64 0,.slice none 0 0,i64 0,i64 0,.bool false,.slice none 0 0,i64 0,.slice none 0 0,.slice none 0 0,.bool false,.slice none 0 0,.slice none 0 0]),.slice none 0 0] 8 (Kb os)
      (World.shaped_of_ZipB (by kernel_rfl) (by kernel_rfl)) (by kernel_rfl) (by kernel_rfl) (by kernel_rfl) (Fx os _)) ?_
  intro W aa args ds gs before Ns hW _ _ _ hL WO _
  have vS:∀(j:Nat) t v,Tryz.f9.params[j]?=some t→args[j]?=some v→Value.okWide Tryz.prog W .any aa t v:=Ns
  have hW':=hW
  obtain⟨p,q,hA0,hV,rfl,hfz,Lx⟩:=hW
  have hA:DataW.TrodAll dk Tryz.prog W 0 (fun _=>true) true [41,72] args.toList ds p:=hA0
  obtain⟨v0,Qj,d0,ds0,p0,q0,dE,rfl,e0,h0,r0⟩:=trodAll_cons hA
  obtain⟨v1,vs1,d1,ds1,p1,q1,rfl,rfl,e1,h1,r1⟩:=trodAll_cons r0
  obtain⟨rfl,rfl,_⟩:=trodAll_nil r1
  obtain rfl:args= #[v0,v1]:=by cases args;simp_all
  obtain⟨rfl,rfl⟩:=trodVars_none hV
  have hLb:=At hL WO
  obtain⟨cs0,y0,rfl,x0⟩:=nq Tryz.underlying41 (vS 0 41 v0 rfl rfl) vT h0
  obtain⟨pw0,rfl,sw0⟩:=x0
  obtain⟨a1,l1,c1,xs1,rfl,x1,le1⟩:=Ly (R:=ow) (sz:=5) Tryz.underlying72 (vS 1 72 v1 rfl rfl) Im h1
  refine((Io hLb sw0 x1).calls (wM W)).mono fun e W' ⟨he,hg⟩=> ?_
  subst he
  exact⟨_,rfl,CU (pv:=[]) hW' (fun _ _ _=>trodAll_cons_mk (shut_bool Tryz.underlying4 _) trodAll_mk0) (TryztrodAll hg (by decide) hA) rfl hg⟩
theorem Av: Tryz.pinned.checked.prog.inPlace 9=Rows.worldRunsRow.inPlace:=by kernel_rfl
theorem qJ: Tryz.pinned.checked.prog.unfollowed 9=Rows.worldRunsRow.unfollowed:=by kernel_rfl
theorem vU: Tryz.pinned.checked.prog.recurses 9=Rows.worldRunsRow.recurses:=by kernel_rfl
theorem tQ: Tryz.pinned.checked.prog.varsNamed 9=Rows.worldRunsRow.named:=by kernel_rfl
theorem Aw: Tryz.pinned.checked.prog.funcNamed Rows.worldRunsRow.func=some 9:=by kernel_rfl
theorem DD:joinedFacts Tryz.pinned.checked.prog 9 Tryz.f9 (OpenSpec.ofChange Rows.worldRunsSpec).bare Rows.worldRunsRow=true:=by
  unfold joinedFacts
  rw[CV,wN,R3,Fy,Ax,Nt,R4,Av,qJ,vU,tQ]
  kernel_rfl
theorem said:Rows.WorldRunsSaid:=
  OpenClaim.holds_of_cond 9 Tryz.f9 rfl rfl rfl rfl rfl rfl rfl ⟨rfl,rfl,rfl,rfl,rfl⟩ rfl rfl rfl rfl rfl Aw Tryz.func9 DD
    (of_decide_eq_true (by kernel_rfl)) (by unfold Func.isWrapper;first|(rw[if_pos (by decide+kernel)];kernel_rfl)|(rw[if_neg (by decide+kernel)];exact⟨rfl,rfl⟩))
    (fun os started H dk _ F=>by rw[OpenClaim.pre_eq_preRow];exact lifted os started H dk F)
/-- No parameter wants a stand-in; what the card asks of the program's own looks. -/
theorem plain(f:FuncId)(fn:Func)(hf: Tryz.pinned.checked.prog.funcNamed Rows.worldRunsRow.func=some f)(WR: Tryz.pinned.checked.prog.funcs[f]?=some fn):
    true= Tryz.pinned.checked.prog.looks []∧ ∀(j:Nat) t,fn.params[j]?=some t→ Tryz.pinned.checked.prog.wantsStandIn t=false:=by
  obtain rfl:f= 9:=Option.some.inj ((show Tryz.prog.funcNamed Rows.worldRunsRow.func=some 9 from Aw).symm.trans hf)|>.symm
  obtain rfl:fn= Tryz.f9:=(Option.some.inj (Tryz.func9.symm.trans WR)).symm
  refine⟨by kernel_rfl,fun j t ht=> ?_⟩
  rw[Tryz.params9] at ht
  have hm:t∈ [41,72]:=by simpa using Array.mem_of_getElem? ht
  have kj:([41,72].all fun u=> !Tryz.prog.wantsStandIn u)=true:=by kernel_rfl
  exact(show Tryz.prog.wantsStandIn t=false by simpa using List.all_eq_true.1 kj t hm)
theorem DE:Rows.worldRunsRow.wfByText (OpenSpec.ofChange Rows.worldRunsSpec)=true:=by kernel_rfl
theorem Nu:false=Rows.worldRunsRow.goesBy Tryz.pinned.checked.prog:=by kernel_rfl
/-- THE STATEMENT. -/
theorem proved:Rows.WorldRunsCardSaid:=
  Claim7.holds_tied_plain_at .later [] _ _ _ _ said (fun _ h=>by cases h) DE (fun _ h=>by cases h) worldRuns_row_tie rfl ⟨rfl,rfl⟩ R5 rfl plain Nu
#print axioms proved
end Go.Proofs.YtgaegoefbekndaaGreatDoor.worldRunsLaw
