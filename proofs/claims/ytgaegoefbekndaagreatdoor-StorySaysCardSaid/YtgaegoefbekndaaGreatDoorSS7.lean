/- What is proved here: a part of the proof of laws of this seat: what a contract is, how it comes of a condition, contracts of the functions that are reached, the plain laws. -/
import Derived.Test.YtgaegoefbekndaaGreatDoorSS6
import Derived.Laws.Strings
import Derived.Lib.Bytealg
set_option linter.unusedSimpArgs false
set_option linter.unusedVariables false
set_option maxRecDepth 100000
namespace Go.Vg
open Go Go.Proofs
theorem cIndexByte{H:Heap}(s:ByteArray)(c:Int):Spec Tryz.prog 266 [.string s,.int .u8 c] H fun v _=>v=i64 (Lib.indexByte s.data.toList c.toNat.toUInt8):=by
 refine TryzvcJ Tryz.func266 (by kernel_rfl) (by kernel_rfl) _ rfl (fun base K=>vc158 s c base H K) fun base hb=>⟨_,fun w _=> ?_,rfl⟩
 show(callFunc 286 #[.string s,.int .u8 c]).run Tryz.prog w=_
 rw[run_callFunc_extern Tryz.func286 (by kernel_rfl) (by kernel_rfl) (by kernel_rfl) (e:=Extern.BytealgIndexByte.indexByte) (by kernel_rfl),Lib.run_indexByteString]
 rfl
theorem eqStr{xo yo:Operand}{s t:ByteArray} :RunsTo Tryz.prog (binRun .eql 9 xo yo (.string s) (.string t)) (.bool (s.toList==t.toList)):=by
 intro w
 have hg:(eqGuard .eql 9 xo yo (.string s) (.string t)).run Tryz.prog w= .ok () w:=by simp[eqGuard]
 simp only[binRun,Sem.run_bind,hg,Result.andThen_ok]
 have:=run_equalIn_string (P:= Tryz.prog) w 9999 9 s t Tryz.underlying9
 simp[binOp,Op.equal,this,Op.stringOp]
theorem cStrIndex{H:Heap}(s:ByteArray)(c:UInt8):Spec Tryz.prog 247 [.string s,.string ⟨#[c]⟩] H fun v _=>v=i64 (Lib.indexByte s.data.toList c):=by
 refine TryzvcJ Tryz.func247 (by kernel_rfl) (by kernel_rfl) _ rfl (fun base K=>vc157 s c base H K) fun base hb=> ?_
 have h1:((ByteArray.mk #[c]).size:Int)=1:=rfl
 refine⟨((ByteArray.mk #[c]).toList==s.toList)=true,⟨fun h=>absurd h (by rw[h1];decide),fun _=>⟨_,eqStr,fun _ _ h=>h,Iff.rfl⟩⟩,fun h=> ?_,fun h=>⟨fun _=>⟨(c.toNat:Int),fun w=> ?_,(cIndexByte s (c.toNat:Int)).int1 fun H1 _ _=> ?_⟩,fun h'=>absurd h1 h'⟩⟩
 ·rw[ByteArray.toList_eq,ByteArray.toList_eq,beq_iff_eq] at h
  rw[←h]
  simp[Lib.indexByte]
 ·rw[run_index_string w 9 (ByteArray.mk #[c]) .i64 0 Tryz.underlying9,dif_pos ⟨by omega,by rw[h1];omega⟩]
  rfl
 ·congr 2
  simp
theorem cContains1{H:Heap}(s:ByteArray)(c:UInt8):Spec Tryz.prog 213 [.string s,.string ⟨#[c]⟩] H fun v _=>v= .bool (decide (0<=Lib.indexByte s.data.toList c)):=by
 have h154:Spec Tryz.prog 239 [.string s,.string ⟨#[c]⟩] H fun v _=>v=i64 (Lib.indexByte s.data.toList c):=by
  refine TryzvcJ Tryz.func239 (by kernel_rfl) (by kernel_rfl) _ rfl (fun base K=>vc154 s ⟨#[c]⟩ base H K) fun base hb=> ?_
  exact(cStrIndex s c).int1 fun H1 _ _=>rfl
 refine TryzvcJ Tryz.func213 (by kernel_rfl) (by kernel_rfl) _ rfl (fun base K=>vc144 s ⟨#[c]⟩ base H K) fun base hb=> ?_
 exact h154.int1 fun H1 _ _=>rfl
def usesB(k:Int):ByteArray:=if k=1 then⟨#[116,114]⟩ else if k=2 then⟨#[116]⟩ else if k=3 then⟨#[116,103]⟩ else if k=4 then⟨#[114]⟩ else if k=5 then⟨#[110]⟩ else if k=6 then⟨#[97,116]⟩ else if k=7 then⟨#[97,116,103]⟩ else⟨#[]⟩
theorem nine{k:Int}(h1:1<=k)(h9:k<=9):k=1∨k=2∨k=3∨k=4∨k=5∨k=6∨k=7∨k=8∨k=9:=by omega
theorem cUses{H:Heap}{k:Int}(h1:1<=k)(h9:k<=9):Spec Tryz.prog 230 [.int .i64 k] H fun v _=>v= .string (usesB k):=by
 refine TryzvcJ Tryz.func230 (by kernel_rfl) (by kernel_rfl) _ rfl (fun base K=>vc145 k base H K) fun base hb=>⟨by omega,by omega,usesB k,?_,rfl⟩
 rcases nine h1 h9 with rfl|rfl|rfl|rfl|rfl|rfl|rfl|rfl|rfl<;>rfl
theorem cHas143{H:Heap}{k:Int}(h1:1<=k)(h9:k<=9)(c:UInt8){p:Nat}(hp:H.cell p 0=some (i64 k)):Spec Tryz.prog 229 [.string ⟨#[c]⟩,.pointer (some ⟨p,0,none⟩)] H fun v _=>v= .bool (decide (0<=Lib.indexByte (usesB k).data.toList c)):=by
 refine TryzvcJ Tryz.func229 (by kernel_rfl) (by kernel_rfl) _ rfl (fun base K=>vc143 ⟨#[c]⟩ p base H K) fun base hb=>⟨k,hp,?_⟩
 refine(cUses h1 h9).mono fun v H1 e1 hv=>⟨_,hv,fun hN1=> ?_⟩
 exact(cContains1 (usesB k) c).bool1 fun H2 _ _=>rfl
theorem cHas{G:Bool->Heap->Prop}{k:Int}(h1:1<=k)(h9:k<=9){rest:List Value}{xs:List Bx}{b base:Nat}{Hb H:Heap}(e0:Ext Hb H){c:UInt8}{P:Prop}[Decidable P](hP:0<=Lib.indexByte (usesB k).data.toList c↔P)(hG:∀H',Ext Hb H'->G (decide P) H'):
  true=true/\∀Hl,Vg.Next 0 H Hl->Hl b=some (boxKB 126 (.int .i64 k::rest))/\True->Spec Tryz.prog 229 [.string ⟨#[c]⟩,.pointer (some ⟨b,0,none⟩)] Hl fun v H''=>∃b1:Bool,v= .bool b1/\∀H',Vg.Next base H H'->(∀(b2:Nat)(k:KB),H'' b2=some k->(∀x:Bx,x∈xs->b2≠Bx.b x)->H' b2=some k)->G b1 H':=
 ⟨rfl,fun Hl hN hb=>(cHas143 h1 h9 c (p:=b) (by unfold Heap.cell;rw[hb.1];rfl)).mono fun v H2 _ hv=>⟨decide P,by rw[hv];congr 1;exact decide_eq_decide.2 hP,fun H' hN' _=>hG H' (e0.trans hN'.ext)⟩⟩
section
variable {k : Int} (h1 : 1 <= k) (h9 : k <= 9)
include h1 h9
theorem hasA:0<=Lib.indexByte (usesB k).data.toList 97↔(k=6∨k=7):=by rcases nine h1 h9 with rfl|rfl|rfl|rfl|rfl|rfl|rfl|rfl|rfl<;>decide
theorem hasT:0<=Lib.indexByte (usesB k).data.toList 116↔(k=1∨k=2∨k=3∨k=6∨k=7):=by rcases nine h1 h9 with rfl|rfl|rfl|rfl|rfl|rfl|rfl|rfl|rfl<;>decide
theorem hasN:0<=Lib.indexByte (usesB k).data.toList 110↔k=5:=by rcases nine h1 h9 with rfl|rfl|rfl|rfl|rfl|rfl|rfl|rfl|rfl<;>decide
theorem hasG:0<=Lib.indexByte (usesB k).data.toList 103↔(k=3∨k=7):=by rcases nine h1 h9 with rfl|rfl|rfl|rfl|rfl|rfl|rfl|rfl|rfl<;>decide
theorem hasR:0<=Lib.indexByte (usesB k).data.toList 114↔(k=1∨k=4):=by rcases nine h1 h9 with rfl|rfl|rfl|rfl|rfl|rfl|rfl|rfl|rfl<;>decide
end
theorem cRecCheck{H:Heap}{a:O}{l c:Nat}{r:Recd}(hp:Pins H a l r.rel.lock):Spec Tryz.prog 198 [recArg r a l c] H fun v _=>v=i64 (recErr r):=by
 obtain⟨kd,ag,tr,n,gd,⟨id,lock⟩⟩:=r
 have hp:Pins H a l lock:=hp
 refine TryzvcJ Tryz.func198 (by kernel_rfl) (by kernel_rfl) _ rfl (fun base K=>vc124 kd ag tr n id gd a l c base H K) fun base hb=> ?_
 have hpl:=hp.len
 have hnr:noRel ⟨id,lock⟩↔id=0/\l=0:=by unfold noRel;rw[len_zero hpl]
 intro b
 refine⟨kd<1∨9<kd,⟨fun _=>⟨rfl,fun _ _ h=>h,by omega⟩,fun _=>⟨rfl,fun _ _ h=>h,by omega⟩⟩,fun h=>by rw[recErr,if_pos h],fun h=> ?_⟩
 have h1:1<=kd:=by omega
 have h9:kd<=9:=by omega
 have hA:=hasA h1 h9
 have hT:=hasT h1 h9
 have hN:=hasN h1 h9
 have hG:=hasG h1 h9
 have hR:=hasR h1 h9
 refine⟨recForm ⟨kd,ag,tr,n,gd,⟨id,lock⟩⟩,?_,fun h2=>by rw[recErr,if_neg h,if_pos h2],fun h2=> ?_⟩
 ·have hF:recForm ⟨kd,ag,tr,n,gd,⟨id,lock⟩⟩↔(ag≠0/\¬(kd=6∨kd=7))∨(tr≠0/\¬(kd=1∨kd=2∨kd=3∨kd=6∨kd=7))∨(n≠0/\¬kd=5)∨(gd=true/\¬(kd=3∨kd=7))∨(¬(id=0/\l=0)/\¬(kd=1∨kd=4)):=by unfold recForm;rw[hnr]
  generalize recForm ⟨kd,ag,tr,n,gd,⟨id,lock⟩⟩=φ at hF
  clear hnr hpl hp h
  repeat' (first
   |refine cHas h1 h9 (Hb:=H) (by first|assumption|exact fun _ _ h=>h) hA fun _ _=> ?_
   |refine cHas h1 h9 (Hb:=H) (by first|assumption|exact fun _ _ h=>h) hT fun _ _=> ?_
   |refine cHas h1 h9 (Hb:=H) (by first|assumption|exact fun _ _ h=>h) hN fun _ _=> ?_
   |refine cHas h1 h9 (Hb:=H) (by first|assumption|exact fun _ _ h=>h) hG fun _ _=> ?_
   |refine cHas h1 h9 (Hb:=H) (by first|assumption|exact fun _ _ h=>h) hR fun _ _=> ?_
   |exact⟨rfl,by first|assumption|exact fun _ _ h=>h,by clear hA hT hN hG hR;grind⟩
   |intro _
   |refine⟨?_,?_⟩)
 refine⟨recRange ⟨kd,ag,tr,n,gd,⟨id,lock⟩⟩,?_,fun h3=>by rw[recErr,if_neg h,if_neg h2,if_pos h3],fun h3=> ?_⟩
 ·have hF:recRange ⟨kd,ag,tr,n,gd,⟨id,lock⟩⟩↔ag<0∨6<=ag∨((kd=1∨kd=2∨kd=3∨kd=6∨kd=7)/\(tr<1∨200<tr))∨(kd=5/\(n<1∨6<n)):=Iff.rfl
  generalize recRange ⟨kd,ag,tr,n,gd,⟨id,lock⟩⟩=φ at hF
  clear hnr hpl hp h h2
  repeat' (first
   |refine cHas h1 h9 (Hb:=H) (by first|assumption|exact fun _ _ h=>h) hT fun _ _=> ?_
   |refine cHas h1 h9 (Hb:=H) (by first|assumption|exact fun _ _ h=>h) hN fun _ _=> ?_
   |exact⟨rfl,by first|assumption|exact fun _ _ h=>h,by clear hA hT hN hG hR;grind⟩
   |intro _
   |refine⟨?_,?_⟩)
 refine cHas h1 h9 (Hb:=H) (fun _ _ h=>h) hR fun H2 e2=>⟨fun hb=> ?_,fun hb=> ?_⟩
 ·refine(cNoteRelease (hp.ext' e2) id).int1 fun H3 _ _=> ?_
  rw[recErr,if_neg h,if_neg h2,if_neg h3,if_pos (by simpa using hb)]
 ·rw[recErr,if_neg h,if_neg h2,if_neg h3,if_neg (by simpa using hb)]
def usesU(k:Int):ByteArray:=if k=1 then⟨#[84,82]⟩ else if k=2 then⟨#[84]⟩ else if k=3 then⟨#[84,71]⟩ else if k=4 then⟨#[82]⟩ else if k=5 then⟨#[78]⟩ else if k=6 then⟨#[65,84]⟩ else if k=7 then⟨#[65,84,71]⟩ else⟨#[]⟩
theorem cHas146{H:Heap}(s:ByteArray)(c:UInt8){p:Nat}(hp:H.cell p 0=some (.string s)):Spec Tryz.prog 212 [.string ⟨#[c]⟩,.pointer (some ⟨p,0,none⟩)] H fun v _=>v= .bool (decide (0<=Lib.indexByte s.data.toList c)):=by
 refine TryzvcJ Tryz.func212 (by kernel_rfl) (by kernel_rfl) _ rfl (fun base K=>vc146 ⟨#[c]⟩ p base H K) fun base hb=>⟨s,hp,?_⟩
 exact(cContains1 s c).bool1 fun H2 _ _=>rfl
theorem cHasU{G:Bool->Heap->Prop}{s:ByteArray}{xs:List Bx}{b base:Nat}{Hb H:Heap}(e0:Ext Hb H){c:UInt8}{P:Prop}[Decidable P](hP:0<=Lib.indexByte s.data.toList c↔P)(hG:∀H',Ext Hb H'->G (decide P) H'):
  true=true/\∀Hl,Vg.Next 0 H Hl->Hl b=some (boxKB 9 [.string s])/\True->Spec Tryz.prog 212 [.string ⟨#[c]⟩,.pointer (some ⟨b,0,none⟩)] Hl fun v H''=>∃b1:Bool,v= .bool b1/\∀H',Vg.Next base H H'->(∀(b2:Nat)(k:KB),H'' b2=some k->(∀x:Bx,x∈xs->b2≠Bx.b x)->H' b2=some k)->G b1 H':=
 ⟨rfl,fun Hl hN hb=>(cHas146 s c (p:=b) (by unfold Heap.cell;rw[hb.1];rfl)).mono fun v H2 _ hv=>⟨decide P,by rw[hv];congr 1;exact decide_eq_decide.2 hP,fun H' hN' _=>hG H' (e0.trans hN'.ext)⟩⟩
section
variable {k : Int} (h1 : 1 <= k) (h9 : k <= 9)
include h1 h9
theorem hasUA:0<=Lib.indexByte (usesU k).data.toList 65↔(k=6∨k=7):=by rcases nine h1 h9 with rfl|rfl|rfl|rfl|rfl|rfl|rfl|rfl|rfl<;>decide
theorem hasUT:0<=Lib.indexByte (usesU k).data.toList 84↔(k=1∨k=2∨k=3∨k=6∨k=7):=by rcases nine h1 h9 with rfl|rfl|rfl|rfl|rfl|rfl|rfl|rfl|rfl<;>decide
theorem hasUN:0<=Lib.indexByte (usesU k).data.toList 78↔k=5:=by rcases nine h1 h9 with rfl|rfl|rfl|rfl|rfl|rfl|rfl|rfl|rfl<;>decide
theorem hasUG:0<=Lib.indexByte (usesU k).data.toList 71↔(k=3∨k=7):=by rcases nine h1 h9 with rfl|rfl|rfl|rfl|rfl|rfl|rfl|rfl|rfl<;>decide
theorem hasUR:0<=Lib.indexByte (usesU k).data.toList 82↔(k=1∨k=4):=by rcases nine h1 h9 with rfl|rfl|rfl|rfl|rfl|rfl|rfl|rfl|rfl<;>decide
end
theorem usesU_get(k:Int):mapGet (.string ⟨#[]⟩) (.int .i64 k) [i64 1,.string ⟨#[84,82]⟩,i64 2,.string ⟨#[84]⟩,i64 3,.string ⟨#[84,71]⟩,i64 4,.string ⟨#[82]⟩,i64 5,.string ⟨#[78]⟩,i64 6,.string ⟨#[65,84]⟩,i64 7,.string ⟨#[65,84,71]⟩,i64 8,.string ⟨#[]⟩,i64 9,.string ⟨#[]⟩]=some (.string (usesU k),decide (1<=k/\k<=9)):=by
 by_cases h:1<=k/\k<=9
 ·rcases nine h.1 h.2 with rfl|rfl|rfl|rfl|rfl|rfl|rfl|rfl|rfl<;>rfl
 ·rw[decide_eq_false h]
  have hU:usesU k=⟨#[]⟩:=by
   unfold usesU
   rw[if_neg (by omega),if_neg (by omega),if_neg (by omega),if_neg (by omega),if_neg (by omega),if_neg (by omega),if_neg (by omega)]
  rw[hU]
  simp only[mapGet,keySame,if_true]
  rw[decide_eq_false (show¬k=(1:Int) by omega),decide_eq_false (show¬k=(2:Int) by omega),decide_eq_false (show¬k=(3:Int) by omega),decide_eq_false (show¬k=(4:Int) by omega),decide_eq_false (show¬k=(5:Int) by omega),
   decide_eq_false (show¬k=(6:Int) by omega),decide_eq_false (show¬k=(7:Int) by omega),decide_eq_false (show¬k=(8:Int) by omega),decide_eq_false (show¬k=(9:Int) by omega)]
theorem cRefRecCheck{H:Heap}{a:O}{l c:Nat}{r:Recd}(hp:Pins H a l r.rel.lock):Spec Tryz.prog 156 [recArg r a l c] H fun v _=>v=i64 (recErr r):=by
 obtain⟨kd,ag,tr,n,gd,⟨id,lock⟩⟩:=r
 have hp:Pins H a l lock:=hp
 refine TryzvcJ Tryz.func156 (by kernel_rfl) (by kernel_rfl) _ rfl (fun base K=>vc127 kd ag tr n id gd a l c base H K) fun base hb=> ?_
 have hpl:=hp.len
 have hnr:noRel ⟨id,lock⟩↔id=0/\l=0:=by unfold noRel;rw[len_zero hpl]
 intro b b1
 refine⟨_,rfl,_,rfl,_,rfl,_,rfl,_,rfl,_,rfl,_,rfl,_,rfl,_,rfl,usesU kd,_,usesU_get kd,fun b3=>⟨fun hk=>⟨fun _=> ?_,fun h=>absurd hk h⟩,fun hk=> ?_⟩⟩
 ·have:¬(1<=kd/\kd<=9):=by simpa using hk
  rw[recErr,if_pos (show kd<1∨9<kd by omega)]
 have h19:1<=kd/\kd<=9:=by simpa using hk
 obtain⟨h1,h9⟩:=h19
 have h:¬(kd<1∨9<kd):=by omega
 have hA:=hasUA h1 h9
 have hT:=hasUT h1 h9
 have hN:=hasUN h1 h9
 have hG:=hasUG h1 h9
 have hR:=hasUR h1 h9
 have bad:recForm ⟨kd,ag,tr,n,gd,⟨id,lock⟩⟩->i64 4=i64 (recErr ⟨kd,ag,tr,n,gd,⟨id,lock⟩⟩):=fun h2=>by rw[recErr,if_neg h,if_pos h2]
 refine⟨ag≠0/\¬(kd=6∨kd=7),⟨fun g=>cHasU (Hb:=H) (fun _ _ h=>h) hA fun _ e=>⟨rfl,e,by grind⟩,fun g=>⟨rfl,fun _ _ h=>h,by grind⟩⟩,fun g=>⟨fun _=>bad (.inl g),fun g'=>absurd g g'⟩,fun g1=> ?_⟩
 refine⟨tr≠0/\¬(kd=1∨kd=2∨kd=3∨kd=6∨kd=7),⟨fun g=>cHasU (Hb:=H) (fun _ _ h=>h) hT fun _ e=>⟨rfl,e,by grind⟩,fun g=>⟨rfl,fun _ _ h=>h,by grind⟩⟩,fun g=>⟨fun _=>bad (.inr (.inl g)),fun g'=>absurd g g'⟩,fun g2=> ?_⟩
 refine⟨n≠0/\¬kd=5,⟨fun g=>cHasU (Hb:=H) (fun _ _ h=>h) hN fun _ e=>⟨rfl,e,by grind⟩,fun g=>⟨rfl,fun _ _ h=>h,by grind⟩⟩,fun g=>⟨fun _=>bad (.inr (.inr (.inl g))),fun g'=>absurd g g'⟩,fun g3=> ?_⟩
 refine⟨gd=true/\¬(kd=3∨kd=7),⟨fun g=>cHasU (Hb:=H) (fun _ _ h=>h) hG fun _ e=>⟨rfl,e,by grind⟩,fun g=>⟨rfl,fun _ _ h=>h,by grind⟩⟩,fun g=>⟨fun _=>bad (.inr (.inr (.inr (.inl g)))),fun g'=>absurd g g'⟩,fun g4=> ?_⟩
 refine⟨¬(id=0/\l=0)/\¬(kd=1∨kd=4),⟨fun g=>cHasU (Hb:=H) (fun _ _ h=>h) hR fun _ e=>⟨rfl,e,by grind⟩,fun g=>⟨fun g'=>cHasU (Hb:=H) (fun _ _ h=>h) hR fun _ e=>⟨rfl,e,by grind⟩,fun g'=>⟨rfl,fun _ _ h=>h,by grind⟩⟩⟩,fun g=>bad (.inr (.inr (.inr (.inr ⟨by rw[hnr];exact g.1,g.2⟩)))),fun g5=> ?_⟩
 have h2:¬recForm ⟨kd,ag,tr,n,gd,⟨id,lock⟩⟩:=by
  unfold recForm
  rw[hnr]
  rintro(q|q|q|q|q)
  ·exact g1 q
  ·exact g2 q
  ·exact g3 q
  ·exact g4 q
  ·exact g5 q
 have bad3:recRange ⟨kd,ag,tr,n,gd,⟨id,lock⟩⟩->i64 3=i64 (recErr ⟨kd,ag,tr,n,gd,⟨id,lock⟩⟩):=fun h3=>by rw[recErr,if_neg h,if_neg h2,if_pos h3]
 refine(cIn ag 0 5).bool1 fun H1 e1 _=>⟨fun g6=>⟨fun _=>bad3 ?_,fun g'=>absurd g6 g'⟩,fun g6=> ?_⟩
 ·have g6:¬(0<=ag/\ag<=5):=by simpa[inR] using g6
  by_cases q:ag<0
  ·exact .inl q
  ·exact .inr (.inl (show 6<=ag by omega))
 have g6:0<=ag/\ag<=5:=by simpa[inR] using g6
 refine⟨(kd=1∨kd=2∨kd=3∨kd=6∨kd=7)/\(tr<1∨200<tr),cHasU (Hb:=H1) (fun _ _ h=>h) hT fun H2 e2=>⟨fun g=>(cIn tr 1 200).bool1 fun H3 e3 _=>⟨rfl,e2.trans e3,by simp only[inR,decide_eq_false_iff_not];grind⟩,fun g=>⟨rfl,e2,by grind⟩⟩,fun g=>⟨fun _=>bad3 (.inr (.inr (.inl g))),fun g'=>absurd g g'⟩,fun g7=> ?_⟩
 refine⟨kd=5/\(n<1∨6<n),cHasU (Hb:=H1) (fun _ _ h=>h) hN fun H2 e2=>⟨fun g=>(cIn n 1 6).bool1 fun H3 e3 _=>⟨rfl,e2.trans e3,by simp only[inR,decide_eq_false_iff_not];grind⟩,fun g=>⟨rfl,e2,by grind⟩⟩,fun g=>bad3 (.inr (.inr (.inr g))),fun g8=> ?_⟩
 have h3:¬recRange ⟨kd,ag,tr,n,gd,⟨id,lock⟩⟩:=by
  rintro(q|q|q|q)
  ·exact absurd q (by show¬ag<0;omega)
  ·exact absurd q (by show¬6<=ag;omega)
  ·exact g7 q
  ·exact g8 q
 refine cHasU (Hb:=H1) (fun _ _ h=>h) hR fun H2 e2=>⟨fun hb=> ?_,fun hb=> ?_⟩
 ·refine(cRefRelease ((hp.ext' e1).ext' e2) id).int1 fun H3 _ _=> ?_
  rw[recErr,if_neg h,if_neg h2,if_neg h3,if_pos (by simpa using hb)]
 ·rw[recErr,if_neg h,if_neg h2,if_neg h3,if_neg (by simpa using hb)]
open Go Go.Proofs
open Go.Value renaming int → I, slice → S, bool → B, agg → A, tuple → T, pointer → P, string → Str
open Go.IntKind renaming i64 → Z, wrap → W
open Go.Addr renaming mk → D
open Go.Vg.Bx renaming mk → J
open Go.Vg renaming Next → X, Spec → Y, SpecO → YO
open Go.Vg.Heap renaming cell → C
open Int renaming toNat → N
theorem vc94(fid bud:Int)(fa ra wa:O)(fl fc rl rc wl wc:Nat)(base:Nat)(H:Heap)(K:KT):
 (fV TryzMutsJ Tryz.f88 base H [.v (A #[I Z fid,S fa fl fc,S ra rl rc,S wa wl wc,I Z bud])] [] K)=(
 (fun w1:LL=>∀a:Nat,∃(b:LI)(c:LM),b [I Z 0,I Z 0] H/\∀(d e:Int)(g:Heap),X base H g->b [I Z d,I Z e] g->(e<(wl:Int)->∃h i,wa=some (D h i none)/\0<=e/\e<(wl:Int)/\∃j k l,C g h (i+N e*1)=some (S j k l)/\∀m:Int,m=W Z (d+if 7<(k:Int) then 7 else(k:Int))->(6<m->K (I Z m) [] g)/\(¬6<m->∀n:Int,n=W Z (e+1)->w1=w1/\b [I Z m,I Z n] g/\c [I Z m,I Z n]<c [I Z d,I Z e]))/\(¬e<(wl:Int)->K (I Z d) [] g)) [[I Z fid,S fa fl fc,S ra rl rc,S wa wl wc,I Z bud]]):=by kernel_rfl
theorem vc95(fid bud:Int)(fa ra wa:O)(fl fc rl rc wl wc:Nat)(base:Nat)(H:Heap)(K:KT):
 (fV TryzMutsJ Tryz.f101 base H [.v (A #[I Z fid,S fa fl fc,S ra rl rc,S wa wl wc,I Z bud])] [] K)=(
 ∀a:Nat,(fun w1:LB=>Y Tryz.prog 167 [A #[I Z fid,S fa fl fc]] H fun b c=>∃d,b=I Z d/\(X base H c->(¬d=0->K (I Z d) [] c)/\(¬¬d=0->∃e:Prop,((¬fid=1->w1=w1/\SubH c c/\e)/\(¬¬fid=1->(bud<0->w1=w1/\SubH c c/\e)/\(¬bud<0->w1=w1/\SubH c c/\(e↔3<bud))))/\(e->K (I Z 3) [] c)/\(¬e->Y Tryz.prog 186 [S fa fl fc,S ra rl rc] c fun g h=>∃i j,g=T #[I Z i,I Z j]/\(X base c h->(¬j=0->K (I Z j) [] h)/\(¬¬j=0->(0<=i->K (I Z 8) [] h)/\(¬0<=i->Y Tryz.prog 88 [A #[I Z fid,S fa fl fc,S ra rl rc,S wa wl wc,I Z bud]] h fun k l=>∃m,k=I Z m/\(X base h l->Y Tryz.prog 187 [S wa wl wc,I Z m] l fun n o=>∃p,n=I Z p/\(X base l o->K (I Z p) [] o))))))))) [J a false 28 [I Z fid,S fa fl fc,S ra rl rc,S wa wl wc,I Z bud]]):=by kernel_rfl
theorem vc84(fid bud:Int)(fa ra wa:O)(fl fc rl rc wl wc:Nat)(base:Nat)(H:Heap)(K:KT):
 (fV TryzMutsJ Tryz.f86 base H [.v (A #[I Z fid,S fa fl fc,S ra rl rc,S wa wl wc,I Z bud])] [] K)=(
 (fun w1:LV=>∀a b:Nat,Y Tryz.prog 101 w1 H fun c d=>∃e,c=I Z e/\(X base H d->(¬e=0->K (T #[A #[S none 0 0,I Z 0,I Z 0,B false,S none 0 0,I Z 0],I Z e]) [] d)/\(¬¬e=0->Y Tryz.prog 163 [S fa fl fc] d fun g h=>∃i j k,g=S i j k/\(X base d h->∀l:Nat,(∀(m:Nat)(n:Heap),X base h n->h m=none->n m=some (boxKB 24 [I Z 1,S i j k])->Y Tryz.prog 88 w1 n fun o p=>∃q,o=I Z q/\(X base n p->0<=q/\q<=q/\N q*24<=140737488355328/\q<=9223372036854775807/\∀(r:Nat)(s:Heap),X base p s->p r=none->s r=some (boxKB 95 (List.flatten (List.replicate (N q) [I Z 0,I Z 0,B false])))->K (T #[A #[S (some (D m 0 none)) 1 1,I Z 1,I Z 0,B false,S (some (D r 0 none)) (N q) (N q),I Z 1],I Z 0]) [] s))/\Y Tryz.prog 88 w1 h fun m n=>∃o,m=I Z o/\(X base h n->(∀(p:Nat)(q:Heap),X base n q->n p=none->q p=some (boxKB 24 [I Z 1,S i j k])->0<=o/\o<=o/\N o*24<=140737488355328/\o<=9223372036854775807/\∀(r:Nat)(s:Heap),X base q s->q r=none->s r=some (boxKB 95 (List.flatten (List.replicate (N o) [I Z 0,I Z 0,B false])))->K (T #[A #[S (some (D p 0 none)) 1 1,I Z 1,I Z 0,B false,S (some (D r 0 none)) (N o) (N o),I Z 1],I Z 0]) [] s)/\0<=o/\o<=o/\N o*24<=140737488355328/\o<=9223372036854775807/\∀(p:Nat)(q:Heap),X base n q->n p=none->q p=some (boxKB 95 (List.flatten (List.replicate (N o) [I Z 0,I Z 0,B false])))->∀(r:Nat)(s:Heap),X base q s->q r=none->s r=some (boxKB 24 [I Z 1,S i j k])->K (T #[A #[S (some (D r 0 none)) 1 1,I Z 1,I Z 0,B false,S (some (D p 0 none)) (N o) (N o),I Z 1],I Z 0]) [] s))))) [A #[I Z fid,S fa fl fc,S ra rl rc,S wa wl wc,I Z bud]]):=by kernel_rfl
abbrev vt77_1(fid bud:Int)(fa ra wa:O)(fl fc rl rc wl wc:Nat)(la ka:O)(ll lc kl kc:Nat)(now goal nx:Int)(back:Bool)(base:Nat)(H:Heap)(K:KT)(H':Heap)(H'_1:Heap)(n_2:Int)(n:Int)(b:Nat)(b_1:Nat):Prop:=
 (fun w4:LV=>(fun w3:LV=>(fun w2:LL=>X base H' H'_1->(¬(kl:Int)=n_2->K (I Z 4) [] H'_1)/\(¬¬(kl:Int)=n_2->∃a c,la=some (D a c none)/\Int.ofNat 0<=0/\0<(ll:Int)/\∃(d:Int)(e:O)(g h:Nat),(C H'_1 a (c+0*2)=some (I Z d)/\C H'_1 a (c+0*2+1)=some (S e g h)/\True)/\Y Tryz.prog 56 [A #[I Z d,S e g h],A #[I Z fid,S fa fl fc]] H'_1 fun i j=>∃k,i=B k/\(X base H'_1 j->(k=false->K (I Z 4) [] j)/\(¬k=false->∃(l:LI)(m:LM),l [I Z n,I Z 0] j/\∀(o p:Int)(q:Heap),X base H q->l [I Z o,I Z p] q->(p<(kl:Int)->∃r s,ka=some (D r s none)/\0<=p/\p<(kl:Int)/\∃(t u:Int)(v:Bool),(C q r (s+N p*3)=some (I Z t)/\C q r (s+N p*3+1)=some (I Z u)/\C q r (s+N p*3+2)=some (B v)/\True)/\∀w:Nat,(fun w1:LB=>∃x:Prop,((t<0->w1=w1/\SubH q q/\x)/\(¬t<0->(3<t->w1=w1/\SubH q q/\x)/\(¬3<t->(u<0->w1=w1/\SubH q q/\x)/\(¬u<0->w1=w1/\SubH q q/\(x↔nx<=u)))))/\(x->K (I Z 3) [] q)/\(¬x->∃y:Prop,((¬t=0->(goal=0->w1=w1/\SubH q q/\y)/\(¬goal=0->(u=0->w1=w1/\SubH q q/\y)/\(¬u=0->(v=true->(back=false->w1=w1/\SubH q q/\y)/\(¬back=false->w1=w1/\SubH q q/\(y↔t=0)))/\(v=false->w1=w1/\SubH q q/\¬y))))/\(¬¬t=0->(v=true->(back=false->w1=w1/\SubH q q/\y)/\(¬back=false->w1=w1/\SubH q q/\(y↔t=0)))/\(v=false->w1=w1/\SubH q q/\¬y)))/\(y->K (I Z 4) [] q)/\(¬y->∀z:Int,z=W Z (p+1)->w2=w2/\l [I Z o,I Z z] q/\m [I Z o,I Z z]<m [I Z o,I Z p]))) [J b false 28 w4,J b_1 false 32 w3,J w false 95 [I Z t,I Z u,B v]])/\(¬p<(kl:Int)->K (I Z 0) [] q))))) [w4,w3]) [S la ll lc,I Z now,I Z goal,B back,S ka kl kc,I Z nx]) [I Z fid,S fa fl fc,S ra rl rc,S wa wl wc,I Z bud]
theorem vc77(fid bud:Int)(fa ra wa:O)(fl fc rl rc wl wc:Nat)(la ka:O)(ll lc kl kc:Nat)(now goal nx:Int)(back:Bool)(base:Nat)(H:Heap)(K:KT):
 (fV TryzMutsJ Tryz.f197 base H [.v (A #[I Z fid,S fa fl fc,S ra rl rc,S wa wl wc,I Z bud]),.v (A #[S la ll lc,I Z now,I Z goal,B back,S ka kl kc,I Z nx])] [] K)=(
 (fun w4:LV=>(fun w3:LL=>(fun w2:LV=>∀a b:Nat,(fun w1:LB=>Y Tryz.prog 101 w2 H fun c d=>∃e,c=I Z e/\(X base H d->(¬e=0->K (I Z e) [] d)/\(¬¬e=0->∃g:Prop,(((ll:Int)=0->w1=w1/\SubH d d/\g)/\(¬(ll:Int)=0->w1=w1/\SubH d d/\(g↔6<(ll:Int))))/\(g->K (I Z 2) [] d)/\(¬g->∃(h:LI)(i:LM),h [I Z 0,I Z 0] d/\∀(j k:Int)(l:Heap),X base H l->h [I Z j,I Z k] l->(k<(ll:Int)->∃m n,la=some (D m n none)/\0<=k/\k<(ll:Int)/\∃(o:Int)(p:O)(q r:Nat),(C l m (n+N k*2)=some (I Z o)/\C l m (n+N k*2+1)=some (S p q r)/\True)/\∀s:Nat,Y Tryz.prog 186 [S p q r,S ra rl rc] l fun t u=>∃v w,t=T #[I Z v,I Z w]/\(X base l u->(¬w=0->K (I Z w) [] u)/\(¬¬w=0->(0<=v->K (I Z 8) [] u)/\(¬0<=v->∀x:Int,x=W Z (k+1)->(¬o=x->K (I Z 4) [] u)/\(¬¬o=x->∀y:Int,y=W Z (k+1)->w3=w3/\h [I Z j,I Z y] u/\i [I Z j,I Z y]<i [I Z j,I Z k])))))/\(¬k<(ll:Int)->∃m:Prop,((now<1->w1=w1/\SubH l l/\m)/\(¬now<1->((ll:Int)<now->w1=w1/\SubH l l/\m)/\(¬(ll:Int)<now->(goal<0->w1=w1/\SubH l l/\m)/\(¬goal<0->((ll:Int)<goal->w1=w1/\SubH l l/\m)/\(¬(ll:Int)<goal->(nx<1->w1=w1/\SubH l l/\m)/\(¬nx<1->w1=w1/\SubH l l/\(m↔201<nx)))))))/\(m->K (I Z 3) [] l)/\(¬m->(goal=now->K (I Z 4) [] l)/\(¬goal=now->(goal=0->(back=true->K (I Z 4) [] l)/\(back=false->Y Tryz.prog 88 w2 l fun n o=>∃p,n=I Z p/\(vt77_1 fid bud fa ra wa fl fc rl rc wl wc la ka ll lc kl kc now goal nx back base H K l o p j a b)))/\(¬goal=0->Y Tryz.prog 88 w2 l fun n o=>∃p,n=I Z p/\(vt77_1 fid bud fa ra wa fl fc rl rc wl wc la ka ll lc kl kc now goal nx back base H K l o p j a b))))))))) [J a false 28 [I Z fid,S fa fl fc,S ra rl rc,S wa wl wc,I Z bud],J b false 32 w4]) [A #[I Z fid,S fa fl fc,S ra rl rc,S wa wl wc,I Z bud]]) [[I Z fid,S fa fl fc,S ra rl rc,S wa wl wc,I Z bud],w4]) [S la ll lc,I Z now,I Z goal,B back,S ka kl kc,I Z nx]):=by kernel_rfl
theorem vc129(la ka:O)(ll lc kl kc:Nat)(now goal nx:Int)(back:Bool)(base:Nat)(H:Heap)(K:KT):
 (fV TryzMutsJ Tryz.f170 base H [.v (A #[S la ll lc,I Z now,I Z goal,B back,S ka kl kc,I Z nx])] [] K)=(
 ∀a b:Nat,Y Tryz.prog 216 [S la ll lc] H fun c d=>∃e g h,c=S e g h/\(X base H d->Y Tryz.prog 217 [S ka kl kc] d fun i j=>∃k l m,(fun w1:LL=>i=S k l m/\(X base d j->∃(n:LI)(o:LM),n [I Z 0] j/\∀(p:Int)(q:Heap),X base H q->n [I Z p] q->(p<(g:Int)->∃r s,e=some (D r s none)/\0<=p/\p<(g:Int)/\∃(t:Int)(u:O)(v w:Nat),(C q r (s+N p*2)=some (I Z t)/\C q r (s+N p*2+1)=some (S u v w)/\True)/\∀x:Nat,Y Tryz.prog 163 [S u v w] q fun y z=>∃a1 b1 c1,y=S a1 b1 c1/\(X base q z->∃d1 e1,e=some (D d1 e1 none)/\0<=p/\p<(g:Int)/\∃f1:KB,z d1=some f1/\KB.free f1=true/\base<=d1/\e1+N p*2+1+1<=KB.size f1/\∀g1:Heap,Upd z d1 (e1+N p*2+1) f1 [S a1 b1 c1] g1->∀h1:Int,h1=W Z (p+1)->w1=w1/\n [I Z h1] g1/\o [I Z h1]<o [I Z p]))/\(¬p<(g:Int)->K (A #[S e g h,I Z now,I Z goal,B back,S k l m,I Z nx]) [] q))) [[S e g h,I Z now,I Z goal,B back,S k l m,I Z nx],[S none 0 0,I Z 0,I Z 0,B false,S none 0 0,I Z 0]])):=by kernel_rfl
theorem vc149(la ka:O)(ll lc kl kc:Nat)(now goal nx:Int)(back:Bool)(base:Nat)(H:Heap)(K:KT):
 (fV TryzMutsJ Tryz.f253 base H [.v (A #[S la ll lc,I Z now,I Z goal,B back,S ka kl kc,I Z nx])] [] K)=(
 (fun w1:LL=>∀a:Nat,∃(b:LI)(c:LM),b [S none 0 0,I Z 0] H/\∀(d:O)(e g:Nat)(h:Int)(i:Heap),X base H i->b [S d e g,I Z h] i->(h<(kl:Int)->∃j k,ka=some (D j k none)/\0<=h/\h<(kl:Int)/\∃(l m:Int)(n:Bool),(C i j (k+N h*3)=some (I Z l)/\C i j (k+N h*3+1)=some (I Z m)/\C i j (k+N h*3+2)=some (B n)/\True)/\∀o:Nat,(l=2->∀p:Nat,∃q:List Value,Row base i 4 1 d e g q/\(e+1)*1<=140737488355328/\e+1<=9223372036854775807/\∀(r:O)(s:Nat)(t:Heap),Grew base i t d g r s (e+1)->Row base t 4 1 r (e+1) s (q++[B true])->∀u:Int,u=W Z (h+1)->w1=w1/\b [S r (e+1) s,I Z u] t/\c [S r (e+1) s,I Z u]<c [S d e g,I Z h])/\(¬l=2->∀p:Nat,∃q:List Value,Row base i 4 1 d e g q/\(e+1)*1<=140737488355328/\e+1<=9223372036854775807/\∀(r:O)(s:Nat)(t:Heap),Grew base i t d g r s (e+1)->Row base t 4 1 r (e+1) s (q++[B (decide (l=3))])->∀u:Int,u=W Z (h+1)->w1=w1/\b [S r (e+1) s,I Z u] t/\c [S r (e+1) s,I Z u]<c [S d e g,I Z h]))/\(¬h<(kl:Int)->K (S d e g) [] i)) [[S la ll lc,I Z now,I Z goal,B back,S ka kl kc,I Z nx]]):=by kernel_rfl
theorem vc150(la ka:O)(ll lc kl kc:Nat)(now goal nx:Int)(back:Bool)(base:Nat)(H:Heap)(K:KT):
 (fV TryzMutsJ Tryz.f254 base H [.v (A #[S la ll lc,I Z now,I Z goal,B back,S ka kl kc,I Z nx])] [] K)=(
 (fun w1:LL=>∀a:Nat,∃(b:LI)(c:LM),b [I Z 0,I Z 0] H/\∀(d e:Int)(g:Heap),X base H g->b [I Z d,I Z e] g->(e<(kl:Int)->∃h i,ka=some (D h i none)/\0<=e/\e<(kl:Int)/\∃(j k:Int)(l:Bool),(C g h (i+N e*3)=some (I Z j)/\C g h (i+N e*3+1)=some (I Z k)/\C g h (i+N e*3+2)=some (B l)/\True)/\∀m:Nat,(j=3->∀n:Int,n=W Z (d+1)->∀o:Int,o=W Z (e+1)->w1=w1/\b [I Z n,I Z o] g/\c [I Z n,I Z o]<c [I Z d,I Z e])/\(¬j=3->∀n:Int,n=W Z (e+1)->w1=w1/\b [I Z d,I Z n] g/\c [I Z d,I Z n]<c [I Z d,I Z e]))/\(¬e<(kl:Int)->K (I Z d) [] g)) [[S la ll lc,I Z now,I Z goal,B back,S ka kl kc,I Z nx]]):=by kernel_rfl
theorem vc134(fid bud:Int)(fa ra wa:O)(fl fc rl rc wl wc:Nat)(la ka:O)(ll lc kl kc:Nat)(now goal nx:Int)(back:Bool)(k:Int)(base:Nat)(H:Heap)(K:KT):
 (fV TryzMutsJ Tryz.f231 base H [.v (A #[I Z fid,S fa fl fc,S ra rl rc,S wa wl wc,I Z bud]),.v (A #[S la ll lc,I Z now,I Z goal,B back,S ka kl kc,I Z nx]),.v (I Z k)] [] K)=(
 (fun w2:LV=>∀a b:Nat,∃c d,ka=some (D c d none)/\0<=k/\k<(kl:Int)/\∃(e g:Int)(h:Bool),(C H c (d+N k*3)=some (I Z e)/\C H c (d+N k*3+1)=some (I Z g)/\C H c (d+N k*3+2)=some (B h)/\True)/\∀i:Nat,(fun w1:LB=>(back=true->∃j:Prop,((¬e=0->w1=w1/\SubH H H/\(j↔h=false))/\(¬¬e=0->w1=w1/\SubH H H/\¬j))/\K (B (@decide j (Classical.propDecidable j))) [] H)/\(back=false->Y Tryz.prog 253 w2 H fun j l=>∃m n o,j=S m n o/\(X base H l->Y Tryz.prog 252 [S wa wl wc,S m n o] l fun p q=>∃r s,p=T #[I Z r,I Z s]/\(X base l q->(s=0->(e=0->Y Tryz.prog 49 [S wa wl wc,I Z k] q fun t u=>∃v,t=I Z v/\(X base q u->(v=r->Y Tryz.prog 254 w2 u fun w x=>∃y,w=I Z y/\(X base u x->K (B (decide (y<=bud))) [] x))/\(¬v=r->K (B false) [] u)))/\(¬e=0->K (B false) [] q))/\(¬s=0->K (B false) [] q))))) [J a false 28 [I Z fid,S fa fl fc,S ra rl rc,S wa wl wc,I Z bud],J b false 32 [S la ll lc,I Z now,I Z goal,B back,S ka kl kc,I Z nx],J i false 95 [I Z e,I Z g,B h]]) [A #[S la ll lc,I Z now,I Z goal,B back,S ka kl kc,I Z nx]]):=by kernel_rfl
theorem vc135(fid bud:Int)(fa ra wa:O)(fl fc rl rc wl wc:Nat)(la ka:O)(ll lc kl kc:Nat)(now goal nx:Int)(back:Bool)(base:Nat)(H:Heap)(K:KT):
 (fV TryzMutsJ Tryz.f232 base H [.v (A #[I Z fid,S fa fl fc,S ra rl rc,S wa wl wc,I Z bud]),.v (A #[S la ll lc,I Z now,I Z goal,B back,S ka kl kc,I Z nx])] [] K)=(
 (fun w1:LV=>∀a b:Nat,(back=false->Y Tryz.prog 254 w1 H fun c d=>∃e,c=I Z e/\(X base H d->(e<=bud->Y Tryz.prog 253 w1 d fun g h=>∃i j k,g=S i j k/\(X base d h->Y Tryz.prog 255 [S i j k,B false] h fun l m=>∃n,l=B n/\(X base h m->K (B (decide (n=false))) [] m)))/\(¬e<=bud->K (B false) [] d)))/\(¬back=false->Y Tryz.prog 256 [S ka kl kc,Value.func (Fn.func 257) #[] #[]] H fun c d=>∃e,c=B e/\(X base H d->K (B (decide (e=false))) [] d))) [A #[S la ll lc,I Z now,I Z goal,B back,S ka kl kc,I Z nx]]):=by kernel_rfl
theorem vc82a(a:O)(l c:Nat)(base:Nat)(H:Heap)(K:KT):
 (fV TryzMutsJ Tryz.f256 base H [.v (S a l c),.v (.func (.func 257) #[] #[])] [] K)=(
 Y Tryz.prog 275 [S a l c,Value.func (Fn.func 257) #[] #[]] H fun b d=>∃e,b=I Z e/\(X base H d->K (B (decide (0<=e))) [] d)):=by kernel_rfl
theorem vc136a(a:O)(l c:Nat)(base:Nat)(H:Heap)(K:KT):
 (fV TryzMutsJ Tryz.f275 base H [.v (S a l c),.v (.func (.func 257) #[] #[])] [] K)=(
 ∃(b:LI)(d:LM),b [I Z 0,I Z 0] H/\∀(e g:Int)(h:Heap),X base H h->b [I Z e,I Z g] h->(g<(l:Int)->∃i j,a=some (D i j none)/\0<=g/\g<(l:Int)/\∃(k m:Int)(n:Bool),(C h i (j+N g*3)=some (I Z k)/\C h i (j+N g*3+1)=some (I Z m)/\C h i (j+N g*3+2)=some (B n)/\True)/\Y Tryz.prog 257 [A #[I Z k,I Z m,B n]] h fun o p=>∃q,o=B q/\(X base h p->(q=true->K (I Z g) [] p)/\(q=false->∀r:Int,r=W Z (g+1)->b [I Z e,I Z r] p/\d [I Z e,I Z r]<d [I Z e,I Z g])))/\(¬g<(l:Int)->K (I Z (-1)) [] h)):=by kernel_rfl
theorem vc152(st tr:Int)(bk:Bool)(base:Nat)(H:Heap)(K:KT):
 (fV TryzMutsJ Tryz.f257 base H [.v (A #[I Z st,I Z tr,B bk])] [] K)=(
 ∀a:Nat,(fun w1:LB=>∃b:Prop,((st=1->w1=w1/\SubH H H/\b)/\(¬st=1->(¬st=0->w1=w1/\SubH H H/\(b↔bk=false))/\(¬¬st=0->w1=w1/\SubH H H/\¬b)))/\K (B (@decide b (Classical.propDecidable b))) [] H) [J a false 95 [I Z st,I Z tr,B bk]]):=by kernel_rfl
theorem vc96(la ka:O)(ll lc kl kc:Nat)(now goal nx:Int)(back:Bool)(la' ka':O)(ll' lc' kl' kc':Nat)(now' goal' nx':Int)(back':Bool)(base:Nat)(H:Heap)(K:KT):
 (fV TryzMutsJ Tryz.f36 base H [.v (A #[S la ll lc,I Z now,I Z goal,B back,S ka kl kc,I Z nx]),.v (A #[S la' ll' lc',I Z now',I Z goal',B back',S ka' kl' kc',I Z nx'])] [] K)=(
 ∀a b:Nat,(fun w1:LB=>∃c:Prop,(Y Tryz.prog 76 [S la ll lc,S la' ll' lc',Value.func (Fn.func 56) #[] #[]] H fun d e=>∃g,d=B g/\(X base H e->(g=true->(now=now'->(goal=goal'->∃h,RunsTo Tryz.prog (binRun BinOp.eql 4 (Operand.tmp 26) (Operand.tmp 28) (B back) (B back')) (B h)/\(h=true->Y Tryz.prog 78 [S ka kl kc,S ka' kl' kc'] e fun i j=>∃k,i=B k/\(X base e j->(k=true->w1=w1/\SubH H j/\(c↔nx=nx'))/\(k=false->w1=w1/\SubH H j/\¬c)))/\(¬h=true->w1=w1/\SubH H e/\¬c))/\(¬goal=goal'->w1=w1/\SubH H e/\¬c))/\(¬now=now'->w1=w1/\SubH H e/\¬c))/\(g=false->w1=w1/\SubH H e/\¬c)))/\K (B (@decide c (Classical.propDecidable c))) [] H) [J a false 32 [S la ll lc,I Z now,I Z goal,B back,S ka kl kc,I Z nx],J b false 32 [S la' ll' lc',I Z now',I Z goal',B back',S ka' kl' kc',I Z nx']]):=by kernel_rfl
theorem vc85a(a a':O)(l c l' c':Nat)(base:Nat)(H:Heap)(K:KT):
 (fV TryzMutsJ Tryz.f76 base H [.v (S a l c),.v (S a' l' c'),.v (.func (.func 56) #[] #[])] [] K)=(
 (¬(l:Int)=(l':Int)->K (B false) [] H)/\(¬¬(l:Int)=(l':Int)->∃(b:LI)(d:LM),b [B false,I Z 0] H/\∀(e:Bool)(g:Int)(h:Heap),X base H h->b [B e,I Z g] h->(g<(l:Int)->∃i j,a=some (D i j none)/\0<=g/\g<(l:Int)/\∃(k:Int)(m:O)(n o:Nat),(C h i (j+N g*2)=some (I Z k)/\C h i (j+N g*2+1)=some (S m n o)/\True)/\∀p:Nat,∃q r,a'=some (D q r none)/\0<=g/\g<(l':Int)/\∃(s:Int)(t:O)(u v:Nat),(C h q (r+N g*2)=some (I Z s)/\C h q (r+N g*2+1)=some (S t u v)/\True)/\∀w:Nat,Y Tryz.prog 56 [A #[I Z k,S m n o],A #[I Z s,S t u v]] h fun x y=>∃z,x=B z/\(X base h y->(z=false->K (B false) [] y)/\(¬z=false->∀a1:Int,a1=W Z (g+1)->b [B e,I Z a1] y/\d [B e,I Z a1]<d [B e,I Z g])))/\(¬g<(l:Int)->K (B true) [] h))):=by kernel_rfl
theorem vc85b(a a':O)(l c l' c':Nat)(base:Nat)(H:Heap)(K:KT):
 (fV TryzMutsJ Tryz.f76 base H [.v (S a l c),.v (S a' l' c'),.v (.func (.func 77) #[] #[])] [] K)=(
 (¬(l:Int)=(l':Int)->K (B false) [] H)/\(¬¬(l:Int)=(l':Int)->∃(b:LI)(d:LM),b [B false,I Z 0] H/\∀(e:Bool)(g:Int)(h:Heap),X base H h->b [B e,I Z g] h->(g<(l:Int)->∃i j,a=some (D i j none)/\0<=g/\g<(l:Int)/\∃(k:Int)(m:O)(n o:Nat),(C h i (j+N g*2)=some (I Z k)/\C h i (j+N g*2+1)=some (S m n o)/\True)/\∀p:Nat,∃q r,a'=some (D q r none)/\0<=g/\g<(l':Int)/\∃(s:Int)(t:O)(u v:Nat),(C h q (r+N g*2)=some (I Z s)/\C h q (r+N g*2+1)=some (S t u v)/\True)/\∀w:Nat,Y Tryz.prog 77 [A #[I Z k,S m n o],A #[I Z s,S t u v]] h fun x y=>∃z,x=B z/\(X base h y->(z=false->K (B false) [] y)/\(¬z=false->∀a1:Int,a1=W Z (g+1)->b [B e,I Z a1] y/\d [B e,I Z a1]<d [B e,I Z g])))/\(¬g<(l:Int)->K (B true) [] h))):=by kernel_rfl
theorem vc138(a a':O)(l c l' c':Nat)(base:Nat)(H:Heap)(K:KT):
 (fV TryzMutsJ Tryz.f78 base H [.v (S a l c),.v (S a' l' c')] [] K)=(
 (¬(l:Int)=(l':Int)->K (B false) [] H)/\(¬¬(l:Int)=(l':Int)->∃(b:LI)(d:LM),b [B false,I Z 0] H/\∀(e:Bool)(g:Int)(h:Heap),X base H h->b [B e,I Z g] h->(g<(l:Int)->∃i j,a=some (D i j none)/\0<=g/\g<(l:Int)/\∃(k m:Int)(n:Bool),(C h i (j+N g*3)=some (I Z k)/\C h i (j+N g*3+1)=some (I Z m)/\C h i (j+N g*3+2)=some (B n)/\True)/\∃o p,a'=some (D o p none)/\0<=g/\g<(l':Int)/\∃(q r:Int)(s:Bool),(C h o (p+N g*3)=some (I Z q)/\C h o (p+N g*3+1)=some (I Z r)/\C h o (p+N g*3+2)=some (B s)/\True)/\∃t,RunsTo Tryz.prog (binRun BinOp.neq 95 (Operand.tmp 19) (Operand.tmp 23) (A #[I Z k,I Z m,B n]) (A #[I Z q,I Z r,B s])) (B t)/\(t=true->K (B false) [] h)/\(¬t=true->∀u:Int,u=W Z (g+1)->b [B e,I Z u] h/\d [B e,I Z u]<d [B e,I Z g]))/\(¬g<(l:Int)->K (B true) [] h))):=by kernel_rfl
theorem vc147(a:O)(l c:Nat)(base:Nat)(H:Heap)(K:KT):
 (fV TryzMutsJ Tryz.f216 base H [.v (S a l c)] [] K)=(
 ∃b,RunsTo Tryz.prog (binRun BinOp.eql 29 (Operand.tmp 3) (Operand.const (S none 0 0)) (S a l c) (S none 0 0)) (B b)/\(b=true->K (S none 0 0) [] H)/\(¬b=true->∀(d:Nat)(e:Heap),X base H e->H d=none->e d=some (boxKB 24 [])->∃g h:List Value,Row base e 24 2 (some (D d 0 none)) 0 0 g/\List.length h=l*2/\allOne h=true/\(l=0∨∃i j,a=some (D i j none)/\cellsAt e i j 0 h)/\(0+l)*32<=140737488355328/\0+l<=9223372036854775807/\∀(i:O)(j:Nat)(k:Heap),Grew base e k (some (D d 0 none)) 0 i j (0+l)->Row base k 24 2 i (0+l) j (g++h)->K (S i (0+l) j) [] k)):=by kernel_rfl
theorem vc148(a:O)(l c:Nat)(base:Nat)(H:Heap)(K:KT):
 (fV TryzMutsJ Tryz.f217 base H [.v (S a l c)] [] K)=(
 ∃b,RunsTo Tryz.prog (binRun BinOp.eql 30 (Operand.tmp 3) (Operand.const (S none 0 0)) (S a l c) (S none 0 0)) (B b)/\(b=true->K (S none 0 0) [] H)/\(¬b=true->∀(d:Nat)(e:Heap),X base H e->H d=none->e d=some (boxKB 95 [])->∃g h:List Value,Row base e 95 3 (some (D d 0 none)) 0 0 g/\List.length h=l*3/\allOne h=true/\(l=0∨∃i j,a=some (D i j none)/\cellsAt e i j 0 h)/\(0+l)*24<=140737488355328/\0+l<=9223372036854775807/\∀(i:O)(j:Nat)(k:Heap),Grew base e k (some (D d 0 none)) 0 i j (0+l)->Row base k 95 3 i (0+l) j (g++h)->K (S i (0+l) j) [] k)):=by kernel_rfl
theorem vc151(a:O)(l c:Nat)(v:Bool)(base:Nat)(H:Heap)(K:KT):
 (fV TryzMutsJ Tryz.f255 base H [.v (S a l c),.v (B v)] [] K)=(
 Y Tryz.prog 274 [S a l c,B v] H fun b d=>∃e,b=I Z e/\(X base H d->K (B (decide (0<=e))) [] d)):=by kernel_rfl
theorem vc155(a:O)(l c:Nat)(v:Bool)(base:Nat)(H:Heap)(K:KT):
 (fV TryzMutsJ Tryz.f274 base H [.v (S a l c),.v (B v)] [] K)=(
 ∃(b:LI)(d:LM),b [I Z 0,I Z 0] H/\∀(e g:Int)(h:Heap),X base H h->b [I Z e,I Z g] h->(g<(l:Int)->∃i j,a=some (D i j none)/\0<=g/\g<(l:Int)/\∃k,C h i (j+N g*1)=some (B k)/\∃m,RunsTo Tryz.prog (binRun BinOp.eql 4 (Operand.tmp 11) (Operand.tmp 15) (B v) (B k)) (B m)/\(m=true->K (I Z g) [] h)/\(¬m=true->∀n:Int,n=W Z (g+1)->b [I Z e,I Z n] h/\d [I Z e,I Z n]<d [I Z e,I Z g]))/\(¬g<(l:Int)->K (I Z (-1)) [] h)):=by kernel_rfl
theorem vc97(fid bud:Int)(fa ra wa:O)(fl fc rl rc wl wc:Nat)(base:Nat)(H:Heap)(K:KT):
 (fV TryzMutsJ Tryz.f68 base H [.v (A #[I Z fid,S fa fl fc,S ra rl rc,S wa wl wc,I Z bud])] [] K)=(
 (fun w1:LL=>∀a:Nat,∃(b:LI)(c:LM),b [I Z 0,I Z 0,I Z 0] H/\∀(d e g:Int)(h:Heap),X base H h->b [I Z d,I Z e,I Z g] h->(g<(wl:Int)->∃i j,wa=some (D i j none)/\0<=g/\g<(wl:Int)/\∃k l m,C h i (j+N g*1)=some (S k l m)/\∃(n:LI)(o:LM),n [I Z d,I Z e,I Z 0] h/\∀(p q r:Int)(s:Heap),X base H s->n [I Z p,I Z q,I Z r] s->(r<(l:Int)->∀t:Int,t=W Z (q+1)->(6<t->K (I Z 7) [] s)/\(¬6<t->∀u:Int,u=W Z (r+1)->w1=w1/\n [I Z p,I Z t,I Z u] s/\o [I Z p,I Z t,I Z u]<o [I Z p,I Z q,I Z r]))/\(¬r<(l:Int)->∀t:Int,t=W Z (g+1)->w1=w1/\b [I Z p,I Z q,I Z t] s/\c [I Z p,I Z q,I Z t]<c [I Z d,I Z e,I Z g]))/\(¬g<(wl:Int)->K (I Z e) [] h)) [[I Z fid,S fa fl fc,S ra rl rc,S wa wl wc,I Z bud]]):=by kernel_rfl
theorem vc91(fid bud:Int)(fa ra wa:O)(fl fc rl rc wl wc:Nat)(base:Nat)(H:Heap)(K:KT):
 (fV TryzMutsJ Tryz.f28 base H [.v (A #[I Z fid,S fa fl fc,S ra rl rc,S wa wl wc,I Z bud])] [] K)=(
 (fun w2:LV=>∀a:Nat,(fun w1:LB=>Y Tryz.prog 84 [A #[I Z fid,S fa fl fc]] H fun b c=>∃d,b=I Z d/\(X base H c->(¬d=0->K (I Z d) [] c)/\(¬¬d=0->∃e:Prop,((¬fid=1->w1=w1/\SubH c c/\e)/\(¬¬fid=1->Y Tryz.prog 92 [I Z bud,I Z 0,I Z 3] c fun g h=>∃i,g=B i/\(X base c h->w1=w1/\SubH c h/\(e↔i=false))))/\(e->K (I Z 3) [] c)/\(¬e->Y Tryz.prog 93 [S fa fl fc,S ra rl rc] c fun g h=>∃i j,g=T #[I Z i,I Z j]/\(X base c h->∃k:Prop,((j=0->w1=w1/\SubH h h/\(k↔0<=i))/\(¬j=0->w1=w1/\SubH h h/\¬k))/\(k->(¬Int.ofNat 8=0->K (I Z 8) [] h)/\(¬¬Int.ofNat 8=0->Y Tryz.prog 68 w2 h fun l m=>∃n,l=I Z n/\(X base h m->Y Tryz.prog 94 [S wa wl wc,I Z n] m fun o p=>∃q,o=I Z q/\(X base m p->K (I Z q) [] p))))/\(¬k->(¬j=0->K (I Z j) [] h)/\(¬¬j=0->Y Tryz.prog 68 w2 h fun l m=>∃n,l=I Z n/\(X base h m->Y Tryz.prog 94 [S wa wl wc,I Z n] m fun o p=>∃q,o=I Z q/\(X base m p->K (I Z q) [] p))))))))) [J a false 28 [I Z fid,S fa fl fc,S ra rl rc,S wa wl wc,I Z bud]]) [A #[I Z fid,S fa fl fc,S ra rl rc,S wa wl wc,I Z bud]]):=by kernel_rfl
theorem vc93(fid bud:Int)(fa ra wa:O)(fl fc rl rc wl wc:Nat)(base:Nat)(H:Heap)(K:KT):
 (fV TryzMutsJ Tryz.f82 base H [.v (A #[I Z fid,S fa fl fc,S ra rl rc,S wa wl wc,I Z bud])] [] K)=(
 (fun w1:LV=>∀a b:Nat,(∀(c:Nat)(d:Heap),X base H d->H c=none->d c=some (boxKB 24 [I Z fid,S fa fl fc])->Y Tryz.prog 68 w1 d fun e g=>∃h,e=I Z h/\(X base d g->0<=h/\h<=h/\N h*24<=140737488355328/\h<=9223372036854775807/\∀(i:Nat)(j:Heap),X base g j->g i=none->j i=some (boxKB 95 (List.flatten (List.replicate (N h) [I Z 0,I Z 0,B false])))->K (A #[S (some (D c 0 none)) 1 1,I Z 1,I Z 0,B false,S (some (D i 0 none)) (N h) (N h),I Z 1]) [] j))/\Y Tryz.prog 68 w1 H fun c d=>∃e,c=I Z e/\(X base H d->(∀(g:Nat)(h:Heap),X base d h->d g=none->h g=some (boxKB 24 [I Z fid,S fa fl fc])->0<=e/\e<=e/\N e*24<=140737488355328/\e<=9223372036854775807/\∀(i:Nat)(j:Heap),X base h j->h i=none->j i=some (boxKB 95 (List.flatten (List.replicate (N e) [I Z 0,I Z 0,B false])))->K (A #[S (some (D g 0 none)) 1 1,I Z 1,I Z 0,B false,S (some (D i 0 none)) (N e) (N e),I Z 1]) [] j)/\0<=e/\e<=e/\N e*24<=140737488355328/\e<=9223372036854775807/\∀(g:Nat)(h:Heap),X base d h->d g=none->h g=some (boxKB 95 (List.flatten (List.replicate (N e) [I Z 0,I Z 0,B false])))->∀(i:Nat)(j:Heap),X base h j->h i=none->j i=some (boxKB 24 [I Z fid,S fa fl fc])->K (A #[S (some (D i 0 none)) 1 1,I Z 1,I Z 0,B false,S (some (D g 0 none)) (N e) (N e),I Z 1]) [] j)) [A #[I Z fid,S fa fl fc,S ra rl rc,S wa wl wc,I Z bud]]):=by kernel_rfl
abbrev vt92_2(fid bud:Int)(fa ra wa:O)(fl fc rl rc wl wc:Nat)(la ka:O)(ll lc kl kc:Nat)(now goal nx:Int)(back:Bool)(base:Nat)(H:Heap)(K:KT)(b_6:Bool)(b:Nat)(b_1:Nat)(b_7:Nat)(n_6:Int)(n_7:Int)(H':Heap)(φ:Prop):Prop:=
 (fun w1:LB=>b_6=true->(back=false->w1=w1/\SubH H' H'/\φ)/\(¬back=false->(b_6=true->w1=w1/\SubH H' H'/\(φ↔n_6=0))/\(b_6=false->w1=w1/\SubH H' H'/\¬φ))) [J b false 28 [I Z fid,S fa fl fc,S ra rl rc,S wa wl wc,I Z bud],J b_1 false 32 [S la ll lc,I Z now,I Z goal,B back,S ka kl kc,I Z nx],J b_7 false 95 [I Z n_6,I Z n_7,B b_6]]
abbrev vt92_3(fid bud:Int)(fa ra wa:O)(fl fc rl rc wl wc:Nat)(la ka:O)(ll lc kl kc:Nat)(now goal nx:Int)(back:Bool)(base:Nat)(H:Heap)(K:KT)(b_6:Bool)(b:Nat)(b_1:Nat)(b_7:Nat)(n_6:Int)(n_7:Int)(H':Heap)(φ:Prop):Prop:=
 (fun w1:LB=>b_6=false->(b_6=true->w1=w1/\SubH H' H'/\(φ↔n_6=0))/\(b_6=false->w1=w1/\SubH H' H'/\¬φ)) [J b false 28 [I Z fid,S fa fl fc,S ra rl rc,S wa wl wc,I Z bud],J b_1 false 32 [S la ll lc,I Z now,I Z goal,B back,S ka kl kc,I Z nx],J b_7 false 95 [I Z n_6,I Z n_7,B b_6]]
abbrev vt92_1(fid bud:Int)(fa ra wa:O)(fl fc rl rc wl wc:Nat)(la ka:O)(ll lc kl kc:Nat)(now goal nx:Int)(back:Bool)(base:Nat)(H:Heap)(K:KT)(H':Heap)(H'_2:Heap)(n_2:Int)(n:Int)(b:Nat)(b_1:Nat):Prop:=
 (fun w4:LV=>(fun w3:LV=>(fun w2:LL=>X base H' H'_2->(¬(kl:Int)=n_2->K (I Z 4) [] H'_2)/\(¬¬(kl:Int)=n_2->∃a c,la=some (D a c none)/\Int.ofNat 0<=0/\0<(ll:Int)/\∃(d:Int)(e:O)(g h:Nat),(C H'_2 a (c+0*2)=some (I Z d)/\C H'_2 a (c+0*2+1)=some (S e g h)/\True)/\Y Tryz.prog 77 [A #[I Z d,S e g h],A #[I Z fid,S fa fl fc]] H'_2 fun i j=>∃k,i=B k/\(X base H'_2 j->(k=false->K (I Z 4) [] j)/\(¬k=false->∃(l:LI)(m:LM),l [I Z n,I Z 0] j/\∀(o p:Int)(q:Heap),X base H q->l [I Z o,I Z p] q->(p<(kl:Int)->∃r s,ka=some (D r s none)/\0<=p/\p<(kl:Int)/\∃(t u:Int)(v:Bool),(C q r (s+N p*3)=some (I Z t)/\C q r (s+N p*3+1)=some (I Z u)/\C q r (s+N p*3+2)=some (B v)/\True)/\∀w:Nat,(fun w1:LB=>∃x:Prop,(Y Tryz.prog 92 [I Z t,I Z 0,I Z 3] q fun y z=>∃a1,y=B a1/\(X base q z->(a1=false->w1=w1/\SubH q z/\x)/\(¬a1=false->∀b1:Int,b1=W Z (nx-1)->Y Tryz.prog 92 [I Z u,I Z 0,I Z b1] z fun c1 d1=>∃e1,c1=B e1/\(X base z d1->w1=w1/\SubH q d1/\(x↔e1=false)))))/\(x->K (I Z 3) [] q)/\(¬x->∃y:Prop,((¬t=0->(goal=0->w1=w1/\SubH q q/\y)/\(¬goal=0->(¬t=0->(u=0->w1=w1/\SubH q q/\y)/\(¬u=0->(vt92_2 fid bud fa ra wa fl fc rl rc wl wc la ka ll lc kl kc now goal nx back base H K v b b_1 w t u q y)/\(vt92_3 fid bud fa ra wa fl fc rl rc wl wc la ka ll lc kl kc now goal nx back base H K v b b_1 w t u q y)))/\(¬¬t=0->(vt92_2 fid bud fa ra wa fl fc rl rc wl wc la ka ll lc kl kc now goal nx back base H K v b b_1 w t u q y)/\(vt92_3 fid bud fa ra wa fl fc rl rc wl wc la ka ll lc kl kc now goal nx back base H K v b b_1 w t u q y))))/\(¬¬t=0->(¬t=0->(u=0->w1=w1/\SubH q q/\y)/\(¬u=0->(vt92_2 fid bud fa ra wa fl fc rl rc wl wc la ka ll lc kl kc now goal nx back base H K v b b_1 w t u q y)/\(vt92_3 fid bud fa ra wa fl fc rl rc wl wc la ka ll lc kl kc now goal nx back base H K v b b_1 w t u q y)))/\(¬¬t=0->(vt92_2 fid bud fa ra wa fl fc rl rc wl wc la ka ll lc kl kc now goal nx back base H K v b b_1 w t u q y)/\(vt92_3 fid bud fa ra wa fl fc rl rc wl wc la ka ll lc kl kc now goal
 nx back base H K v b b_1 w t u q y))))/\(y->K (I Z 4) [] q)/\(¬y->∀z:Int,z=W Z (p+1)->w2=w2/\l [I Z o,I Z z] q/\m [I Z o,I Z z]<m [I Z o,I Z p]))) [J b false 28 w4,J b_1 false 32 w3,J w false 95 [I Z t,I Z u,B v]])/\(¬p<(kl:Int)->K (I Z 0) [] q))))) [w4,w3]) [S la ll lc,I Z now,I Z goal,B back,S ka kl kc,I Z nx]) [I Z fid,S fa fl fc,S ra rl rc,S wa wl wc,I Z bud]
theorem vc92(fid bud:Int)(fa ra wa:O)(fl fc rl rc wl wc:Nat)(la ka:O)(ll lc kl kc:Nat)(now goal nx:Int)(back:Bool)(base:Nat)(H:Heap)(K:KT):
 (fV TryzMutsJ Tryz.f155 base H [.v (A #[I Z fid,S fa fl fc,S ra rl rc,S wa wl wc,I Z bud]),.v (A #[S la ll lc,I Z now,I Z goal,B back,S ka kl kc,I Z nx])] [] K)=(
 (fun w4:LV=>(fun w3:LL=>(fun w2:LV=>∀a b:Nat,(fun w1:LB=>Y Tryz.prog 28 w2 H fun c d=>∃e,c=I Z e/\(X base H d->(¬e=0->K (I Z e) [] d)/\(¬¬e=0->Y Tryz.prog 92 [I Z (ll:Int),I Z 1,I Z 6] d fun g h=>∃i,g=B i/\(X base d h->(i=false->K (I Z 2) [] h)/\(¬i=false->∃(j:LI)(k:LM),j [I Z 0,I Z 0] h/\∀(l m:Int)(n:Heap),X base H n->j [I Z l,I Z m] n->(m<(ll:Int)->∃o p,la=some (D o p none)/\0<=m/\m<(ll:Int)/\∃(q:Int)(r:O)(s t:Nat),(C n o (p+N m*2)=some (I Z q)/\C n o (p+N m*2+1)=some (S r s t)/\True)/\∀u:Nat,Y Tryz.prog 93 [S r s t,S ra rl rc] n fun v w=>∃x y,v=T #[I Z x,I Z y]/\(X base n w->(¬y=0->K (I Z y) [] w)/\(¬¬y=0->(0<=x->K (I Z 8) [] w)/\(¬0<=x->∀z:Int,z=W Z (q-1)->(¬z=m->K (I Z 4) [] w)/\(¬¬z=m->∀a1:Int,a1=W Z (m+1)->w3=w3/\j [I Z l,I Z a1] w/\k [I Z l,I Z a1]<k [I Z l,I Z m])))))/\(¬m<(ll:Int)->∃o:Prop,(Y Tryz.prog 92 [I Z now,I Z 1,I Z (ll:Int)] n fun p q=>∃r,p=B r/\(X base n q->(r=false->w1=w1/\SubH n q/\o)/\(¬r=false->Y Tryz.prog 92 [I Z goal,I Z 0,I Z (ll:Int)] q fun s t=>∃u,s=B u/\(X base q t->(u=false->w1=w1/\SubH n t/\o)/\(¬u=false->Y Tryz.prog 92 [I Z nx,I Z 1,I Z 201] t fun v w=>∃x,v=B x/\(X base t w->w1=w1/\SubH n w/\(o↔x=false)))))))/\(o->K (I Z 3) [] n)/\(¬o->(now=goal->K (I Z 4) [] n)/\(¬now=goal->(back=true->(goal=0->K (I Z 4) [] n)/\(¬goal=0->Y Tryz.prog 68 w2 n fun p q=>∃r,p=I Z r/\(vt92_1 fid bud fa ra wa fl fc rl rc wl wc la ka ll lc kl kc now goal nx back base H K n q r l a b)))/\(back=false->Y Tryz.prog 68 w2 n fun p q=>∃r,p=I Z r/\(vt92_1 fid bud fa ra wa fl fc rl rc wl wc la ka ll lc kl kc now goal nx back base H K n q r l a b)))))))))) [J a false 28 [I Z fid,S fa fl fc,S ra rl rc,S wa wl wc,I Z bud],J b false 32 w4]) [A #[I Z fid,S fa fl fc,S ra rl rc,S wa wl wc,I Z bud]]) [[I Z fid,S fa fl fc,S ra rl rc,S wa wl wc,I Z bud],w4]) [S la ll lc,I Z now,I Z goal,B back,S ka kl kc,I Z nx]):=by kernel_rfl
theorem vc88(la ka:O)(ll lc kl kc:Nat)(now goal nx:Int)(back:Bool)(la' ka':O)(ll' lc' kl' kc':Nat)(now' goal' nx':Int)(back':Bool)(base:Nat)(H:Heap)(K:KT):
 (fV TryzMutsJ Tryz.f21 base H [.v (A #[S la ll lc,I Z now,I Z goal,B back,S ka kl kc,I Z nx]),.v (A #[S la' ll' lc',I Z now',I Z goal',B back',S ka' kl' kc',I Z nx'])] [] K)=(
 ∀a b:Nat,(fun w1:LB=>∃c:Prop,(Y Tryz.prog 76 [S la ll lc,S la' ll' lc',Value.func (Fn.func 77) #[] #[]] H fun d e=>∃g,d=B g/\(X base H e->(g=true->(now=now'->(goal=goal'->∃h,RunsTo Tryz.prog (binRun BinOp.eql 4 (Operand.tmp 26) (Operand.tmp 28) (B back) (B back')) (B h)/\(h=true->Y Tryz.prog 78 [S ka kl kc,S ka' kl' kc'] e fun i j=>∃k,i=B k/\(X base e j->(k=true->w1=w1/\SubH H j/\(c↔nx=nx'))/\(k=false->w1=w1/\SubH H j/\¬c)))/\(¬h=true->w1=w1/\SubH H e/\¬c))/\(¬goal=goal'->w1=w1/\SubH H e/\¬c))/\(¬now=now'->w1=w1/\SubH H e/\¬c))/\(g=false->w1=w1/\SubH H e/\¬c)))/\K (B (@decide c (Classical.propDecidable c))) [] H) [J a false 32 [S la ll lc,I Z now,I Z goal,B back,S ka kl kc,I Z nx],J b false 32 [S la' ll' lc',I Z now',I Z goal',B back',S ka' kl' kc',I Z nx']]):=by kernel_rfl
theorem vc139(la ka:O)(ll lc kl kc:Nat)(now goal nx:Int)(back:Bool)(k:Int)(base:Nat)(H:Heap)(K:KT):
 (fV TryzMutsJ Tryz.f214 base H [.v (A #[S la ll lc,I Z now,I Z goal,B back,S ka kl kc,I Z nx]),.v (I Z k)] [] K)=(
 (fun w1:LL=>∀a:Nat,∃(b:LI)(c:LM),b [I Z 0,I Z 0] H/\∀(d e:Int)(g:Heap),X base H g->b [I Z d,I Z e] g->(e<(kl:Int)->∃h i,ka=some (D h i none)/\0<=e/\e<(kl:Int)/\∃(j l:Int)(m:Bool),(C g h (i+N e*3)=some (I Z j)/\C g h (i+N e*3+1)=some (I Z l)/\C g h (i+N e*3+2)=some (B m)/\True)/\∀n:Nat,(j=k->∀o:Int,o=W Z (d+1)->∀p:Int,p=W Z (e+1)->w1=w1/\b [I Z o,I Z p] g/\c [I Z o,I Z p]<c [I Z d,I Z e])/\(¬j=k->∀o:Int,o=W Z (e+1)->w1=w1/\b [I Z d,I Z o] g/\c [I Z d,I Z o]<c [I Z d,I Z e]))/\(¬e<(kl:Int)->K (I Z d) [] g)) [[S la ll lc,I Z now,I Z goal,B back,S ka kl kc,I Z nx]]):=by kernel_rfl
theorem vc100(fid bud:Int)(fa ra wa:O)(fl fc rl rc wl wc:Nat)(la ka:O)(ll lc kl kc:Nat)(now goal nx:Int)(back:Bool)(k:Int)(base:Nat)(H:Heap)(K:KT):
 (fV TryzMutsJ Tryz.f157 base H [.v (A #[I Z fid,S fa fl fc,S ra rl rc,S wa wl wc,I Z bud]),.v (A #[S la ll lc,I Z now,I Z goal,B back,S ka kl kc,I Z nx]),.v (I Z k)] [] K)=(
 (fun w3:LV=>∀a b:Nat,∃c d,ka=some (D c d none)/\0<=k/\k<(kl:Int)/\∃(e g:Int)(h:Bool),(fun w2:LL=>(C H c (d+N k*3)=some (I Z e)/\C H c (d+N k*3+1)=some (I Z g)/\C H c (d+N k*3+2)=some (B h)/\True)/\∀i:Nat,(fun w1:LB=>(back=true->∃j:Prop,((h=false->w1=w1/\SubH H H/\(j↔¬e=0))/\(¬h=false->w1=w1/\SubH H H/\¬j))/\K (B (@decide j (Classical.propDecidable j))) [] H)/\(back=false->(¬e=0->K (B false) [] H)/\(¬¬e=0->Y Tryz.prog 214 [A #[S la ll lc,I Z now,I Z goal,B back,S ka kl kc,I Z nx],I Z 3] H fun j l=>∃m,j=I Z m/\(X base H l->(bud<m->K (B false) [] l)/\(¬bud<m->∃(n:LI)(o:LM),n [B false,I Z 0] l/\∀(p:Bool)(q:Int)(r:Heap),X base H r->n [B p,I Z q] r->(q<(wl:Int)->∃s t,wa=some (D s t none)/\0<=q/\q<(wl:Int)/\∃u v w,C r s (t+N q*1)=some (S u v w)/\Y Tryz.prog 137 [S u v w,I Z k] r fun x y=>∃z,x=B z/\(X base r y->(z=true->K (B true) [] y)/\(z=false->∃(a1:LI)(b1:LM),a1 [B p,I Z 0] y/\∀(c1:Bool)(d1:Int)(e1:Heap),X base H e1->a1 [B c1,I Z d1] e1->(d1<(v:Int)->∃f1 g1,u=some (D f1 g1 none)/\0<=d1/\d1<(v:Int)/\∃h1,C e1 f1 (g1+N d1*1)=some (I Z h1)/\∃i1 j1,ka=some (D i1 j1 none)/\0<=h1/\h1<(kl:Int)/\∃k1,C e1 i1 (j1+N h1*3)=some (I Z k1)/\(k1<2->K (B false) [] e1)/\(¬k1<2->∀l1:Int,l1=W Z (d1+1)->w2=w2/\a1 [B c1,I Z l1] e1/\b1 [B c1,I Z l1]<b1 [B c1,I Z d1]))/\(¬d1<(v:Int)->∀f1:Int,f1=W Z (q+1)->w2=w2/\n [B c1,I Z f1] e1/\o [B c1,I Z f1]<o [B p,I Z q]))))/\(¬q<(wl:Int)->K (B false) [] r)))))) [J a false 28 w3,J b false 32 [S la ll lc,I Z now,I Z goal,B back,S ka kl kc,I Z nx],J i false 95 [I Z e,I Z g,B h]]) [w3,[S la ll lc,I Z now,I Z goal,B back,S ka kl kc,I Z nx],[I Z e,I Z g,B h]]) [I Z fid,S fa fl fc,S ra rl rc,S wa wl wc,I Z bud]):=by kernel_rfl
theorem vc98(fid bud:Int)(fa ra wa:O)(fl fc rl rc wl wc:Nat)(la ka:O)(ll lc kl kc:Nat)(now goal nx:Int)(back:Bool)(base:Nat)(H:Heap)(K:KT):
 (fV TryzMutsJ Tryz.f158 base H [.v (A #[I Z fid,S fa fl fc,S ra rl rc,S wa wl wc,I Z bud]),.v (A #[S la ll lc,I Z now,I Z goal,B back,S ka kl kc,I Z nx])] [] K)=(
 (fun w4:LV=>(fun w3:LV=>(fun w2:LL=>∀a b:Nat,(back=false->Y Tryz.prog 214 [A #[S la ll lc,I Z now,I Z goal,B back,S ka kl kc,I Z nx],I Z 2] H fun c d=>∃e,c=I Z e/\(X base H d->Y Tryz.prog 214 w3 d fun g h=>∃i,g=I Z i/\(X base d h->∀j:Int,j=W Z (e+i)->(j=(kl:Int)->Y Tryz.prog 214 w3 h fun k l=>∃m,k=I Z m/\(X base h l->K (B (decide (m<=bud))) [] l))/\(¬j=(kl:Int)->K (B false) [] h))))/\(¬back=false->∃(c:LI)(d:LM),c [B false,I Z 0] H/\∀(e:Bool)(g:Int)(h:Heap),X base H h->c [B e,I Z g] h->(g<(kl:Int)->∃i j,ka=some (D i j none)/\0<=g/\g<(kl:Int)/\∃(k l:Int)(m:Bool),(C h i (j+N g*3)=some (I Z k)/\C h i (j+N g*3+1)=some (I Z l)/\C h i (j+N g*3+2)=some (B m)/\True)/\∀n:Nat,(fun w1:LB=>∃o:Prop,((k=1->w1=w1/\SubH h h/\o)/\(¬k=1->(1<k->w1=w1/\SubH h h/\(o↔m=false))/\(¬1<k->w1=w1/\SubH h h/\¬o)))/\(o->K (B false) [] h)/\(¬o->∀p:Int,p=W Z (g+1)->w2=w2/\c [B e,I Z p] h/\d [B e,I Z p]<d [B e,I Z g])) [J a false 28 w4,J b false 32 [S la ll lc,I Z now,I Z goal,B back,S ka kl kc,I Z nx],J n false 95 [I Z k,I Z l,B m]])/\(¬g<(kl:Int)->K (B true) [] h))) [w4,[S la ll lc,I Z now,I Z goal,B back,S ka kl kc,I Z nx]]) [A #[S la ll lc,I Z now,I Z goal,B back,S ka kl kc,I Z nx],I Z 3]) [I Z fid,S fa fl fc,S ra rl rc,S wa wl wc,I Z bud]):=by kernel_rfl
theorem vc137(e:Int)(base:Nat)(H:Heap)(K:KT):
 (fV TryzMutsJ Tryz.f154 base H [.v (I Z e)] [] K)=(
 ∀a:Nat,K (T #[A #[S none 0 0,I Z 0,I Z 0,B false,S none 0 0,I Z 0],I Z e]) [] H):=by kernel_rfl
theorem vc80(fid bud:Int)(fa ra wa:O)(fl fc rl rc wl wc:Nat)(la ka:O)(ll lc kl kc:Nat)(now goal nx:Int)(back:Bool)(k:Int)(base:Nat)(H:Heap)(K:KT):
 (fV TryzMutsJ Tryz.f220 base H [.v (A #[I Z fid,S fa fl fc,S ra rl rc,S wa wl wc,I Z bud]),.v (A #[S la ll lc,I Z now,I Z goal,B back,S ka kl kc,I Z nx]),.v (I Z k)] [] K)=(
 (fun w2:LV=>∀a b c:Nat,(fun w1:LB=>Y Tryz.prog 197 [A #[I Z fid,S fa fl fc,S ra rl rc,S wa wl wc,I Z bud],A #[S la ll lc,I Z now,I Z goal,B back,S ka kl kc,I Z nx]] H fun d e=>∃g,d=I Z g/\(X base H e->(¬g=0->K (T #[B false,A #[I Z 0,S none 0 0],I Z g]) [] e)/\(¬¬g=0->∃h:Prop,((k<0->w1=w1/\SubH e e/\h)/\(¬k<0->w1=w1/\SubH e e/\(h↔(kl:Int)<=k)))/\(h->K (T #[B false,A #[I Z 0,S none 0 0],I Z 5]) [] e)/\(¬h->(goal=0->K (T #[B false,A #[I Z 0,S none 0 0],I Z 7]) [] e)/\(¬goal=0->(back=true->∀i:Int,i=W Z (now-1)->∃j l,la=some (D j l none)/\0<=i/\i<(ll:Int)/\∃(m:Int)(n:O)(o p:Nat),(C e j (l+N i*2)=some (I Z m)/\C e j (l+N i*2+1)=some (S n o p)/\True)/\∀q:Nat,Y Tryz.prog 231 w2 e fun r s=>∃t,r=B t/\(X base e s->Y Tryz.prog 163 [S n o p] s fun u v=>∃w x y,u=S w x y/\(X base s v->K (T #[B t,A #[I Z m,S w x y],I Z 0]) [] v)))/\(back=false->∀i:Int,i=W Z (goal-1)->∃j l,la=some (D j l none)/\0<=i/\i<(ll:Int)/\∃(m:Int)(n:O)(o p:Nat),(C e j (l+N i*2)=some (I Z m)/\C e j (l+N i*2+1)=some (S n o p)/\True)/\∀q:Nat,Y Tryz.prog 231 w2 e fun r s=>∃t,r=B t/\(X base e s->Y Tryz.prog 163 [S n o p] s fun u v=>∃w x y,u=S w x y/\(X base s v->K (T #[B t,A #[I Z m,S w x y],I Z 0]) [] v)))))))) [J a false 28 [I Z fid,S fa fl fc,S ra rl rc,S wa wl wc,I Z bud],J b false 32 [S la ll lc,I Z now,I Z goal,B back,S ka kl kc,I Z nx],J c false 24 [I Z 0,S none 0 0]]) [A #[I Z fid,S fa fl fc,S ra rl rc,S wa wl wc,I Z bud],A #[S la ll lc,I Z now,I Z goal,B back,S ka kl kc,I Z nx],I Z k]):=by kernel_rfl
end Go.Vg
