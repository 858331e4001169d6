/- THE LAW StoryEnds: what is proved here: the statement Rows.StoryEndsCardSaid (the row, and its tie to the program's text). -/
import Derived.Test.YtgaegoefbekndaaGreatDoorSE14
set_option linter.unusedSimpArgs false
set_option maxRecDepth 100000
set_option linter.unusedVariables false
namespace Go.Proofs.YtgaegoefbekndaaGreatDoor.storyEndsLaw
open Go Go.Proofs Go.Vg
open Go.ChangeShapes Go.WideShapes Go.ChangeAt Go.RowKit
theorem lifted(os:Os)(started:os.Started)(HH:Type)(enc:TypeId×Value→HH)(F:Stop.Interp):
    ReturnsInHanded {} Tryz.checked os 16 .any ((OpenSpec.ofChange Rows.storyEndsSpec).preRow enc Tryz.prog Tryz.f16 Rows.storyEndsRow.domain false Rows.storyEndsRow.laid) (((OpenSpec.ofChange Rows.storyEndsSpec).at F).post enc Tryz.prog Tryz.f16 false true false false):=by
  refine returnsInHanded_of_row (C:= Tryz.checked) (s:=OpenSpec.ofChange Rows.storyEndsSpec) Tryzown started (by kernel_rfl) Tryz.func16
    (ChangeSpec.witness_shaped (enc:=enc) (C:= Tryz.checked) (os:=os) (X:=fun w _=>laidMetH Tryz.prog Rows.storyEndsRow.laid w) false (laidWorld os) #[(.agg #[i64 0,.slice none 0 0,.slice none 0 0,.slice none 0 0,i64 0]),.slice none 0 0] 8 (laid_os os)
      (World.shaped_of_ZipB (by kernel_rfl) (by kernel_rfl)) (by kernel_rfl) (by kernel_rfl) (by kernel_rfl) (laid_met os _)) ?_
  intro W base args ds gs before hval0 hW _ _ _ hL hsh _
  have hval:∀(j:Nat) t v,Tryz.f16.params[j]?=some t→args[j]?=some v→Value.okWide Tryz.prog W .any base t v:=hval0
  have hW':=hW
  obtain⟨p,q,hA0,hV,rfl,hfz,hnd⟩:=hW
  have hA:DataW.TrodAll enc Tryz.prog W 0 (fun _=>true) true [28,72] args.toList ds p:=hA0
  obtain⟨v0,vs0,d0,ds0,p0,q0,hargs,rfl,e0,h0,r0⟩:=trodAll_cons hA
  obtain⟨v1,vs1,d1,ds1,p1,q1,rfl,rfl,e1,h1,r1⟩:=trodAll_cons r0
  obtain⟨rfl,rfl,_⟩:=trodAll_nil r1
  obtain rfl:args= #[v0,v1]:=by cases args;simp_all
  obtain⟨rfl,rfl⟩:=trodVars_none hV
  have hLb:=lb_of_laid hL hsh
  obtain⟨cs0,y0,rfl,x0⟩:=arg_struct Tryz.underlying28 (hval 0 28 v0 rfl rfl) reads_conf h0
  obtain⟨fa0,fn0,fc0,ra0,rn0,rc0,wa0,wn0,wc0,rfl,sc0⟩:=x0
  obtain⟨a1,l1,c1,xs1,rfl,x1,le1⟩:=arg_slice (R:=RHap) (sz:=5) Tryz.underlying72 (hval 1 72 v1 rfl rfl) reads_haps h1
  refine((cStoryEnds hLb sc0 x1 le1).calls (sees_heapOf W)).mono fun e W' ⟨he,hg⟩=> ?_
  subst he
  exact⟨_,rfl,post_mine (pv:=[]) hW' (fun _ _ _=>trodAll_cons_mk (shut_bool Tryz.underlying4 _) trodAll_mk0) (TryztrodAll hg (by decide) hA) rfl hg⟩
theorem inPlaceT: Tryz.pinned.checked.prog.inPlace 16=Rows.storyEndsRow.inPlace:=by kernel_rfl
theorem unfollowedT: Tryz.pinned.checked.prog.unfollowed 16=Rows.storyEndsRow.unfollowed:=by kernel_rfl
theorem recursesT: Tryz.pinned.checked.prog.recurses 16=Rows.storyEndsRow.recurses:=by kernel_rfl
theorem varsNamedT: Tryz.pinned.checked.prog.varsNamed 16=Rows.storyEndsRow.named:=by kernel_rfl
theorem namedT: Tryz.pinned.checked.prog.funcNamed Rows.storyEndsRow.func=some 16:=by kernel_rfl
theorem closedT:joinedFacts Tryz.pinned.checked.prog 16 Tryz.f16 (OpenSpec.ofChange Rows.storyEndsSpec).bare Rows.storyEndsRow=true:=by
  unfold joinedFacts
  rw[mayEnterT,liftsFinalT,makeT,laidOutT,mapsRowedT,heardT,keysT,inPlaceT,unfollowedT,recursesT,varsNamedT]
  kernel_rfl
theorem said:Rows.StoryEndsSaid:=
  OpenClaim.holds_of_cond 16 Tryz.f16 rfl rfl rfl rfl rfl rfl rfl ⟨rfl,rfl,rfl,rfl,rfl⟩ rfl rfl rfl rfl rfl namedT Tryz.func16 closedT
    (of_decide_eq_true (by kernel_rfl)) (by unfold Func.isWrapper;first|(rw[if_pos (by decide+kernel)];kernel_rfl)|(rw[if_neg (by decide+kernel)];exact⟨rfl,rfl⟩))
    (fun os started H enc _ F=>by rw[OpenClaim.pre_eq_preRow];exact lifted os started H enc F)
/-- No parameter wants a stand-in; what the card asks of the program's own looks. -/
theorem plain(f:FuncId)(fn:Func)(hf: Tryz.pinned.checked.prog.funcNamed Rows.storyEndsRow.func=some f)(hfn: Tryz.pinned.checked.prog.funcs[f]?=some fn):
    true= Tryz.pinned.checked.prog.looks []∧ ∀(j:Nat) t,fn.params[j]?=some t→ Tryz.pinned.checked.prog.wantsStandIn t=false:=by
  obtain rfl:f= 16:=Option.some.inj ((show Tryz.prog.funcNamed Rows.storyEndsRow.func=some 16 from namedT).symm.trans hf)|>.symm
  obtain rfl:fn= Tryz.f16:=(Option.some.inj (Tryz.func16.symm.trans hfn)).symm
  refine⟨by kernel_rfl,fun j t ht=> ?_⟩
  rw[Tryz.params16] at ht
  have hm:t∈ [28,72]:=by simpa using Array.mem_of_getElem? ht
  have hall:([28,72].all fun u=> !Tryz.prog.wantsStandIn u)=true:=by kernel_rfl
  exact(show Tryz.prog.wantsStandIn t=false by simpa using List.all_eq_true.1 hall t hm)
theorem byTextT:Rows.storyEndsRow.wfByText (OpenSpec.ofChange Rows.storyEndsSpec)=true:=by kernel_rfl
theorem goesT:false=Rows.storyEndsRow.goesBy Tryz.pinned.checked.prog:=by kernel_rfl
/-- THE STATEMENT. -/
theorem proved:Rows.StoryEndsCardSaid:=
  Claim7.holds_tied_plain_at .later [] _ _ _ _ said (fun _ h=>by cases h) byTextT (fun _ h=>by cases h) storyEnds_row_tie rfl ⟨rfl,rfl⟩ mainT rfl plain goesT
#print axioms proved
end Go.Proofs.YtgaegoefbekndaaGreatDoor.storyEndsLaw
