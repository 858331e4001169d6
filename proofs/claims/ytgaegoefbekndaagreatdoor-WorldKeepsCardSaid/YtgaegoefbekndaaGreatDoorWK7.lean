/- What is proved here: a part of the proof of laws of this seat: what a contract is, how it comes of a condition, contracts of the functions that are reached, the plain laws. -/
import Derived.Test.YtgaegoefbekndaaGreatDoorWK6
import Derived.Test.YtgaegoefbekndaaGreatDoorRows
import Derived.ChangeSame
import Derived.OpenShut
import Derived.ProofKit
import Derived.ChangeArms
import Derived.ChangeOld
import Derived.ChangeSlices
import Derived.ChangeStays
set_option linter.unusedSimpArgs false
set_option linter.unusedVariables false
set_option maxRecDepth 100000
namespace Go.Vg
open Go Go.Proofs
theorem beq_bytes(a b:List UInt8):(a==b)=decide (a=b):=by by_cases h:a=b<;>simp[h]
theorem eqS{xo yo:Operand}{s t:ByteArray} :RunsTo Tryz.prog (binRun .eql 9 xo yo (.string s) (.string t)) (.bool (decide (s.data.toList=t.data.toList))):=by
 have:=eqStr (xo:=xo) (yo:=yo) (s:=s) (t:=t)
 rw[ByteArray.toList_eq,ByteArray.toList_eq,beq_bytes] at this
 exact this
theorem neS{xo yo:Operand}{s t:ByteArray} :RunsTo Tryz.prog (binRun .neq 9 xo yo (.string s) (.string t)) (.bool (decide (¬s.data.toList=t.data.toList))):=by
 intro w
 have hg:(eqGuard .neq 9 xo yo (.string s) (.string t)).run Tryz.prog w= .ok () w:=by simp[eqGuard]
 simp only[binRun,Sem.run_bind,hg,Result.andThen_ok]
 have:=run_equalIn_string (P:= Tryz.prog) w 9999 9 s t Tryz.underlying9
 have e:(s.toList==t.toList)=decide (s.data.toList=t.data.toList):=by rw[ByteArray.toList_eq,ByteArray.toList_eq,beq_bytes]
 simp[binOp,Op.equal,this,Op.stringOp,e]
theorem eqNilE{xo:Operand} :RunsTo Tryz.prog (binRun .eql 263 xo (.const .nilIface) .nilIface .nilIface) (.bool true):=by
 intro w
 have hu:=run_underlying Tryz.underlying263
 have hg:(eqGuard .eql 263 xo (.const .nilIface) .nilIface .nilIface).run Tryz.prog w= .ok () w:=by simp[eqGuard]
 have he:(Op.equalIn (9999+1) 263 .nilIface .nilIface).run Tryz.prog w= .ok true w:=by
  rw[Op.equalIn]
  simp only[Sem.run_bind,hu,Result.andThen_ok]
  rfl
 simp only[binRun,Sem.run_bind,hg,Result.andThen_ok]
 simp[binOp,Op.equal,show Op.maxDepth=9999+1 from rfl,he]
theorem eqIfaceE{xo:Operand}{t:TypeId}{p:Value} :RunsTo Tryz.prog (binRun .eql 263 xo (.const .nilIface) (.iface t p) .nilIface) (.bool false):=by
 intro w
 have hu:=run_underlying Tryz.underlying263
 have hg:(eqGuard .eql 263 xo (.const .nilIface) (.iface t p) .nilIface).run Tryz.prog w= .ok () w:=by simp[eqGuard]
 have he:(Op.equalIn (9999+1) 263 (.iface t p) .nilIface).run Tryz.prog w= .ok false w:=by
  rw[Op.equalIn]
  simp only[Sem.run_bind,hu,Result.andThen_ok]
  rfl
 simp only[binRun,Sem.run_bind,hg,Result.andThen_ok]
 simp[binOp,Op.equal,show Op.maxDepth=9999+1 from rfl,he]
theorem box_cells{H:Heap}{g:Nat}{e:TypeId}{cs:List Value}(h:H g=some (boxKB e cs)):Vg.cellsAt H g 0 0 cs:=
 cellsAt_of _ 0 fun j v hj=>by unfold Heap.cell;rw[h];simpa[boxKB] using hj
section
variable {H : Heap} (hL : Lb H)
include hL
theorem cNumber{s:ByteArray}(hs:s.size<=281474976710656):Spec Tryz.prog 251 [.string s] H fun v _=>∃(n:Int)(b:Bool),v= .tuple #[.int .i64 n,.bool b]/\(b=true->num s.data.toList=some n)/\(b=false->num s.data.toList=none):=by
 refine Tryzvc Tryz.func251 (by kernel_rfl) (by kernel_rfl) _ rfl (fun base K=>vd44 s base H K) fun base hb=> ?_
 refine(l_atoi hL hs).spec.mono fun v H1 e1 hv=> ?_
 obtain⟨⟨n,e,rfl,h⟩,_⟩:=hv
 rcases h with⟨hok,rfl⟩|⟨hno,t,p,rfl⟩
 ·have hbd:=Lib.atoiAll_bounds hok
  refine⟨n,.inl ⟨rfl,fun hN=>⟨true,eqNilE,fun _=>(l_itoa (hL.ext e1) hbd.1 hbd.2).str1 fun H2 e2 hN2=>⟨_,eqS,n,_,rfl,fun h=> ?_,fun h=> ?_⟩,fun h=>absurd rfl h⟩⟩⟩
  ·simp at h
   rw[num,hok];simp[h]
  ·simp at h
   rw[num,hok];simp[h]
 ·refine⟨n,.inr ⟨t,p,rfl,fun hN=>⟨false,eqIfaceE,fun h=>(by cases h),fun _=>⟨n,false,rfl,fun h=>(by cases h),fun _=> ?_⟩⟩⟩⟩
  unfold num
  split
  ·rename_i v hv;exact absurd hv (hno v)
  ·rfl
end
open Go Go.Proofs
theorem cuts_len(c:UInt8):∀s:List UInt8,(cuts c s).length<=s.length+1
 | []=>by simp[cuts]
 |b::r=>by
  have ih:=cuts_len c r
  have:=cuts_ne c r
  have hp:0<(cuts c r).length:=List.length_pos_iff.2 this
  unfold cuts
  split
  ·simp;omega
  ·simp;omega
theorem mem_cuts_len{c:UInt8}{s w:List UInt8}(h:w∈cuts c s):w.length<=s.length:=by
 have hj:=joinB_cuts c s
 have key:∀(ws:List (List UInt8)),w∈ws->w.length<=(joinB c ws).length:=by
  intro ws hw
  cases ws with
  |nil=>cases hw
  |cons x r=>
   unfold joinB
   rcases List.mem_cons.1 hw with rfl|hw
   ·simp
   ·obtain⟨i,hi⟩:=List.getElem?_of_mem hw
    have:(c::w).length<=(r.flatMap fun y=>c::y).length:=by
     clear hi i h hj
     induction r with
     |nil=>cases hw
     |cons y t ih=>
      simp only[List.flatMap_cons,List.length_append]
      rcases List.mem_cons.1 hw with rfl|hw
      ·omega
      ·have:=ih (by simp[hw]) hw;omega
    simp only[List.length_append];simp at this⊢;omega
 rw[←hj];exact key _ h
theorem readPins_cons{w:List UInt8}{ws:List (List UInt8)}{p:Pin}(h:readPin w=some p):readPins (w::ws)=(readPins ws).map (p:: ·):=by rw[readPins,h]
theorem readPins_bad{w:List UInt8}{ws:List (List UInt8)}(h:readPin w=none):readPins (w::ws)=none:=by rw[readPins,h]
theorem lockRead_none{s:List UInt8}(h:readWords s=none):lockRead s= .error 1:=by rw[lockRead,h]
theorem lockRead_some{s:List UInt8}{l:List Pin}(h:readWords s=some l):lockRead s=if lockCheck l=0 then .ok l else .error (lockCheck l):=by rw[lockRead,h]
theorem data_mk(l:List UInt8):(⟨l.toArray⟩:ByteArray).data.toList=l:=rfl
theorem size_mk(l:List UInt8):(⟨l.toArray⟩:ByteArray).size=l.length:=rfl
theorem size_data(s:ByteArray):s.size=s.data.toList.length:=by simp
def Apart(H1:Heap)(a:O)(c:Nat):Prop:=c≠0->∀x k,H1 x=some k->a≠some ⟨x,0,none⟩
theorem Apart.none{H1:Heap}{a:O} :Apart H1 a 0:=fun h=>absurd rfl h
theorem Apart.grew{base:Nat}{H1 H H':Heap}{a a':O}{c c' nn:Nat}(h:Apart H1 a c)(e:Ext H1 H)(hg:Grew base H H' a c a' c' nn):Ext H1 H'/\Apart H1 a' c':=by
 refine⟨fun x k hx=>hg.keep x k (e x k hx) ?_,fun hc' x k hx ha'=> ?_⟩
 ·by_cases hc:c=0
  ·exact .inl hc
  ·exact .inr (h hc x k hx)
 ·rcases hg.place hc' x ha' with hn|⟨he,hc⟩
  ·rw[e x k hx] at hn;cases hn
  ·rw[he] at ha';exact h hc x k hx ha'
section
variable {H : Heap} (hL : Lb H)
include hL
theorem cLockPrint{a:O}{l c:Nat}{xs:List Pin}(hp:Pins H a l xs):Spec Tryz.prog 284 [.slice a l c] H fun v _=>v= .tuple #[str (if lockCheck xs=0 then lockText xs else []),i64 (lockCheck xs)]:=by
 refine TryzvcJ Tryz.func284 (by kernel_rfl) (by kernel_rfl) _ rfl (fun base K=>vd8 a l c base H K) fun base hb=> ?_
 have hl:=hp.len
 refine(cLockCheck hp).int1 fun H1 e1 hN1=>⟨fun h=> ?_,fun h=> ?_⟩
 ·rw[if_neg h];rfl
 have hz:=Decidable.not_not.1 h
 rw[if_pos hz,hz]
 have hlk:=(lockCheck_zero.1 hz).2
 refine⟨fun vs H'=>∃(a3:O)(c3 m:Nat),vs=[.slice a3 m c3,i64 m]/\m<=l/\Row base H' 9 1 a3 m c3 ((xs.take m).flatMap fun p=>[str (wordOf p)]),upTo l 1,⟨none,0,0,rfl,by omega,Row.nil⟩,fun a3 n3 c3 n H2 hN2 hI=> ?_⟩
 obtain⟨a3',c3',m,hvs,hm,hR⟩:=hI
 obtain⟨⟨rfl,rfl,rfl⟩,rfl⟩:(a3=a3'/\n3=m/\c3=c3')/\n=(m:Int):=by simpa using hvs
 refine⟨fun hlt=>hp.pin hN2.ext (by omega) hlt fun p hpp=> ?_,fun hge=> ?_⟩
 ·rw[Int.toNat_natCast] at hpp
  have hr:=pin_range hz (List.mem_of_getElem? hpp)
  have hi1:=itoa_short (n:=p.name) (by omega) (by omega)
  have hi2:=itoa_short (n:=p.ver) (by omega) (by omega)
  intro _
  refine(l_itoa (hL.ext hN2.ext) (by omega) (by omega)).str1 fun H3 e3 hN3=>⟨_,runs_add rfl (by simp only[List.length_append,List.length_cons,List.length_nil];omega),?_⟩
  refine(l_itoa (hL.ext (Ext.trans hN2.ext e3)) (by omega) (by omega)).str1 fun H4 e4 hN4=>⟨_,runs_add (c:=wordOf p) (by simp[wordOf]) (by simp only[List.length_append,List.length_cons,List.length_nil];omega),fun g H5 hN5 hg hH5=> ?_⟩
  refine⟨_,_,hR.ext (Ext.trans e3 (Ext.trans e4 hN5.ext)),rfl,rfl,.inr ⟨g,0,rfl,box_cells hH5⟩,by omega,by omega,fun a6 c6 H6 hG6 hR6=> ?_⟩
  rintro r rfl
  rw[wrap_in (by omega) (by omega)]
  refine⟨⟨a6,c6,n3+1,rfl,by omega,?_⟩,by simp[upTo];omega⟩
  rw[take_at hpp,List.flatMap_append]
  exact hR6
 ·obtain rfl:n3=l:=by omega
  rw[List.take_of_length_le (by omega)] at hR
  have hS:Sl RStr 1 H2 a3 n3 (xs.map wordOf):=by
   have hR':Row base H2 9 1 a3 n3 c3 ((xs.map wordOf).flatMap fun w=>[str w]):=by rw[List.flatMap_map];exact hR
   exact sl_of_rowE (enc:=fun w=>[str w]) (sz:=1) (fun _=>rfl) (by omega) hR'
  have hjl:(joinB 44 (xs.map wordOf)).length<=72:=lockText_len hz
  exact(l_join (b:=44) hS hR.2.1 (by omega) (by omega)).str1 fun H3 e3 hN3=>rfl
theorem cLockParse{s:ByteArray} :Spec Tryz.prog 228 [.string s] H fun v H'=>∃a n c,v= .tuple #[.slice a n c,i64 (if 60000<s.size then 2 else errOf (lockRead s.data.toList))]/\Fresh H H' 91 2 a n c ((if 60000<s.size then [] else okL (lockRead s.data.toList)).flatMap pinCells):=by
 refine TryzvcJ Tryz.func228 (by kernel_rfl) (by kernel_rfl) _ rfl (fun base K=>vd11 s base H K) fun base hb=> ?_
 refine⟨fun h=> ?_,fun h=> ?_⟩
 ·rw[if_pos (by omega),if_pos (by omega)];exact⟨none,0,0,rfl,Fresh.zero⟩
 rw[if_neg (by omega),if_neg (by omega)]
 have hsz:s.data.toList.length<=60000:=by rw[←size_data];omega
 refine⟨_,eqS,fun h0=> ?_,fun h0=> ?_⟩
 ·have h0:s.data.toList=[]:=by simpa using h0
  rw[h0];exact⟨none,0,0,rfl,Fresh.zero⟩
 have hne:s.data.toList≠[]:=by simpa using h0
 have hW:readWords s.data.toList=readPins (cuts 44 s.data.toList):=by rw[readWords,if_neg hne]
 generalize hws:cuts 44 s.data.toList=ws at hW
 have hwl:ws.length<=60001:=by have:=cuts_len 44 s.data.toList;rw[hws] at this;omega
 have hwm:∀w∈ws,w.length<=60000:=fun w hw=>by rw[←hws] at hw;have:=mem_cuts_len hw;omega
 refine(l_split hL (s:=s) (c:=44) (by omega)).mono fun v H1 e1 hv=> ?_
 obtain⟨g,N,hv,hS⟩:=hv
 rw[hws] at hS
 have hNl:=hS.len
 refine⟨_,_,_,hv,fun hN1=> ?_⟩
 refine⟨fun vs H'=>∃(a2:O)(n2 c2:Nat)(k:Int)(a3:O)(c3 m:Nat)(ps:List Pin),vs=[.slice a2 n2 c2,i64 k,.slice a3 m c3,i64 m]/\m<=N/\Row base H' 91 2 a3 m c3 (ps.flatMap pinCells)/\Ext H1 H'/\Apart H1 a3 c3/\
  readPins ws=(readPins (ws.drop m)).map (ps++ ·),upTo N 3,⟨none,0,0,0,none,0,0,[],rfl,by omega,Row.nil,Ext.refl _,Apart.none,by simp⟩,fun a2 n2 c2 k a3 n3 c3 n H2 hN2 hI=> ?_⟩
 obtain⟨a2',n2',c2',k',a3',c3',m,ps,hvs,hm,hR,hE,hA,hI⟩:=hI
 obtain⟨⟨rfl,rfl,rfl⟩,rfl,⟨rfl,rfl,rfl⟩,rfl⟩:(a2=a2'/\n2=n2'/\c2=c2')/\k=k'/\(a3=a3'/\n3=m/\c3=c3')/\n=(m:Int):=by simpa using hvs
 refine⟨fun hlt=>hS.str hE (by omega) hlt fun w hw=> ?_,fun hge=> ?_⟩
 ·rw[Int.toNat_natCast] at hw
  have hwz:=hwm w (List.mem_of_getElem? hw)
  rw[drop_at hw] at hI
  refine(l_cut (hL.ext hN2.ext) (s:=⟨w.toArray⟩) (sep:=⟨#[64]⟩) (by rw[size_mk];omega)).cut3 fun H3 e3 hN3=> ?_
  rw[data_mk,show(⟨#[64]⟩:ByteArray).data.toList=[64] from rfl]
  generalize hcut:Lib.cut w [64]=x
  have hxl:x.1.length<=60000/\x.2.1.length<=60000:=by
   rcases cut_cases 64 w with⟨_,e⟩|⟨u,t,rfl,_,e⟩
   ·rw[e] at hcut;subst hcut;exact⟨hwz,by simp⟩
   ·rw[e] at hcut;subst hcut;simp at hwz;exact⟨by simp;omega,by simp;omega⟩
  refine(cNumber (hL.ext (Ext.trans hN2.ext e3)) (s:=⟨x.1.toArray⟩) (by rw[size_mk];omega)).mono fun v H4 e4 hv4=> ?_
  obtain⟨n4,b4,hv4,ht4,hf4⟩:=hv4
  refine⟨n4,b4,hv4,fun hN4=> ?_⟩
  refine(cNumber (hL.ext (Ext.trans hN2.ext (Ext.trans e3 e4))) (s:=⟨x.2.1.toArray⟩) (by rw[size_mk];omega)).mono fun v H5 e5 hv5=> ?_
  obtain⟨n5,b5,hv5,ht5,hf5⟩:=hv5
  rw[data_mk] at ht4 hf4 ht5 hf5
  refine⟨n5,b5,hv5,fun hN5=> ?_⟩
  have hrd:readPin w=if x.2.2=true then(match num x.1,num x.2.1 with|some n,some v=>some ⟨n,v⟩|_,_=>none) else none:=by unfold readPin;rw[hcut];rfl
  refine⟨readPin w=none,⟨fun h1=>⟨fun _ _ h=>h,?_⟩,fun h1=>⟨fun h2=>⟨fun _ _ h=>h,?_⟩,fun h2=>⟨fun _ _ h=>h,?_⟩⟩⟩,fun hφ=> ?_,fun hφ=> ?_⟩
  ·rw[hrd,if_neg (by rw[h1];decide)]
  ·rw[hrd,hf4 h2];split<;>rfl
  ·have h1':x.2.2=true:=by simpa using h1
   have h2':b4=true:=by simpa using h2
   rw[hrd,if_pos h1',ht4 h2']
   cases hb5:b5 with
   |true=>rw[ht5 hb5];simp
   |false=>rw[hf5 hb5];simp
  ·rw[readPins_bad hφ,Option.map_none] at hI
   rw[lockRead_none (hW.trans hI)]
   exact⟨none,0,0,rfl,Fresh.zero⟩
  ·have hpin:readPin w=some ⟨n4,n5⟩:=by
    rw[hrd] at hφ⊢
    by_cases hx:x.2.2=true
    ·rw[if_pos hx] at hφ⊢
     cases hb4:b4 with
     |false=>rw[hf4 hb4] at hφ;exact absurd rfl hφ
     |true=>
      cases hb5:b5 with
      |false=>rw[ht4 hb4,hf5 hb5] at hφ;exact absurd rfl hφ
      |true=>rw[ht4 hb4,ht5 hb5]
    ·rw[if_neg hx] at hφ;exact absurd rfl hφ
   rw[readPins_cons hpin] at hI
   intro _
   refine⟨_,hR.ext (Ext.trans e3 (Ext.trans e4 e5)),by omega,by omega,fun a6 c6 H6 hG6 hR6=> ?_⟩
   rintro r rfl
   rw[wrap_in (by omega) (by omega)]
   obtain⟨hE6,hA6⟩:=hA.grew (Ext.trans hE (Ext.trans e3 (Ext.trans e4 e5))) hG6
   exact⟨⟨a2,n2,c2,k,a6,c6,n3+1,ps++[⟨n4,n5⟩],rfl,by omega,by rw[List.flatMap_append];exact hR6,hE6,hA6,by rw[hI];cases readPins (ws.drop (n3+1))<;>simp⟩,by simp[upTo];omega⟩
 ·have hmN:n3=N:=by omega
  subst hmN
  rw[List.drop_of_length_le (by omega),readPins,Option.map_some,List.append_nil] at hI
  rw[lockRead_some (hW.trans hI)]
  refine(cLockCheck (pins_of_row hR)).int1 fun H3 e3 hN3=>⟨fun h=> ?_,fun h=> ?_⟩
  ·rw[if_neg h];exact⟨none,0,0,rfl,Fresh.zero⟩
  ·have h:=Decidable.not_not.1 h
   rw[if_pos h]
   exact⟨a3,n3,c3,rfl,(hR.ext e3).fresh hb⟩
end
open Go Go.Proofs
theorem errOf_zero{s:List UInt8}(h:errOf (lockRead s)=0):∃l,lockRead s= .ok l:=by
 cases hr:lockRead s with
 |ok l=>exact⟨l,rfl⟩
 |error e=>rw[hr] at h;exact absurd h (lockRead_err hr)
open Go Go.Proofs
theorem decC{p:Prop}[Decidable p]: @decide p (Classical.propDecidable p)=decide p:=by by_cases h:p<;>simp[h]
theorem subH{H:Heap} :SubH H H:=fun _ _ h=>h
def numText(l:List Int):List UInt8:=l.flatMap fun n=>Lib.itoa n++[32]
theorem numText_snoc{l:List Int}{n:Int} :numText (l++[n])=numText l++(Lib.itoa n++[32]):=by simp[numText]
theorem numText_len:∀ {l:List Int},(∀n∈l,0<=n/\n<=200)->(numText l).length<=l.length*4
 | [],_=>by simp[numText]
 |n::r,h=>by
  have h1:=h n (by simp)
  have h2:=itoa_short3 (n:=n) h1.1 (by omega)
  have h3:=numText_len (l:=r) fun m hm=>h m (by simp[hm])
  have e:numText (n::r)=(Lib.itoa n++[32])++numText r:=rfl
  rw[e]
  simp only[List.length_append,List.length_cons,List.length_nil,Nat.succ_mul]
  omega
theorem recText_eq(r:Recd):recText r=numText (recNums r)++61::lockText r.rel.lock:=rfl
section
variable {H : Heap} (hL : Lb H)
include hL
theorem cNotePrint{a:O}{l c:Nat}{r:Recd}(hp:Pins H a l r.rel.lock):Spec Tryz.prog 265 [recArg r a l c] H fun v _=>v= .tuple #[str (if recErr r=0 then recText r else []),i64 (recErr r)]:=by
 obtain⟨kd,ag,tr,n,gd,⟨id,lock⟩⟩:=r
 have hp:Pins H a l lock:=hp
 refine TryzvcJ Tryz.func265 (by kernel_rfl) (by kernel_rfl) _ rfl (fun base K=>vd18 kd ag tr n id gd a l c base H K) fun base hb=> ?_
 intro _
 refine(cRecCheck (r:=⟨kd,ag,tr,n,gd,⟨id,lock⟩⟩) hp).int1 fun H1 e1 hN1=>⟨fun h=> ?_,fun h=> ?_⟩
 ·rw[if_neg h];rfl
 have hz:=Decidable.not_not.1 h
 rw[if_pos hz,hz]
 have hnn:=recErr_nums hz
 have hlk:=recErr_lock hz
 cases gd with
 |true=>
  refine⟨fun _=> ?_,fun h=>(by cases h)⟩
  intro b
  generalize hrn:recNums ⟨kd,ag,tr,n,true,⟨id,lock⟩⟩=ns at hnn
  have hnl:ns.length=6:=by rw[←hrn];rfl
  have hget:∀(m:Nat)(x:Int),ns[m]?=some x->([.int .i64 kd,.int .i64 ag,.int .i64 tr,.int .i64 n,.int .i64 1,.int .i64 id]:List Value)[m]?=some (.int .i64 x):=fun m x hx=>by
   have e:([.int .i64 kd,.int .i64 ag,.int .i64 tr,.int .i64 n,.int .i64 1,.int .i64 id]:List Value)=ns.map i64:=by rw[←hrn];rfl
   rw[e,List.getElem?_map,hx];rfl
  refine⟨fun vs H'=>∃(m:Nat)(p:O)(a3:O)(c3:Nat),vs=[i64 m,.agg #[.pointer p,.slice a3 (numText (ns.take m)).length c3]]/\m<=6/\(p=none∨p=some ⟨b,0,none⟩)/\Row base H' 5 1 a3 (numText (ns.take m)).length c3 (u8s (numText (ns.take m))),upTo 6 0,
   ⟨0,none,none,0,rfl,by omega,.inl rfl,Row.nil⟩,fun n2 v a3 n3 c3 H2 hN2 hI=> ?_⟩
  obtain⟨m,p,a3',c3',hvs,hm,hpp,hR⟩:=hI
  obtain⟨rfl,rfl,rfl,rfl,rfl⟩:n2=(m:Int)/\v= .pointer p/\a3=a3'/\n3=(numText (ns.take m)).length/\c3=c3':=by simpa using hvs
  have hlen:=numText_len (l:=ns.take m) fun x hx=>hnn x (List.mem_of_mem_take hx)
  have htl:(ns.take m).length<=6:=by rw[List.length_take];omega
  refine⟨fun hlt=>⟨by omega,hlt,?_⟩,fun hge=> ?_⟩
  ·have hmn:m<ns.length:=by omega
   have hx:ns[m]?=some ns[m]:=List.getElem?_eq_getElem hmn
   generalize ns[m]=x at hx
   have hxr:=hnn x (List.mem_of_getElem? hx)
   have hxl:=itoa_short3 (n:=x) hxr.1 (by omega)
   refine⟨x,by rw[Int.toNat_natCast,Nat.mul_one];exact hget m x hx,(l_itoa (hL.ext hN2.ext) (by omega) (by omega)).str1 fun H3 e3 hN3=>⟨_,runs_add rfl (by simp only[List.length_cons,List.length_nil];omega),?_⟩⟩
   refine(cCopyCheck (v:= .slice a3 (numText (ns.take m)).length c3) hpp).mono fun r css H4 e4 hq=> ?_
   obtain⟨rfl,rfl,rfl⟩:=hq
   refine⟨rfl,_,_,_,_,rfl,fun hN4=>⟨_,hR.ext e3,by rw[size_mk];simp only[List.length_append,List.length_cons,List.length_nil];omega,fun a6 c6 H6 hG6 hR6=> ?_⟩⟩
   rintro r rfl
   rw[wrap_in (by omega) (by omega)]
   have e6:numText (ns.take (m+1))=numText (ns.take m)++(Lib.itoa x++[32]):=by rw[take_at hx,numText_snoc]
   have e7:(numText (ns.take (m+1))).length=(numText (ns.take m)).length+(⟨(Lib.itoa x++[32]).toArray⟩:ByteArray).size:=by rw[e6,List.length_append];rfl
   refine⟨rfl,⟨m+1,some ⟨b,0,none⟩,a6,c6,by rw[e7];rfl,by omega,.inr rfl,?_⟩,by simp[upTo];omega⟩
   rw[e7,e6]
   have e8:u8s (numText (ns.take m)++(Lib.itoa x++[32]))=u8s (numText (ns.take m))++u8s (⟨(Lib.itoa x++[32]).toArray⟩:ByteArray).data.toList:=by rw[data_mk];simp[u8s]
   rw[e8]
   exact hR6
  ·obtain rfl:m=6:=by omega
   rw[List.take_of_length_le (by omega)] at hlen hR⊢
   have hll:(lockText lock).length<=72:=lockText_len hlk
   refine(cLockPrint (hL.ext hN2.ext) (hp.ext' hN2.ext)).strE fun H3 e3 hN3=>⟨rfl,?_,numText ns,hR.ext e3,fun H4 _ _=> ?_⟩
   ·have:numText ns≠[]:=by
     intro e
     cases ns with
     |nil=>simp at hnl
     |cons x t=>unfold numText at e;simp at e
    exact List.length_pos_iff.2 this
   ·rw[if_pos hlk,hlk]
    exact⟨_,runs_add rfl (by simp only[List.length_cons,List.length_nil];omega),_,runs_add (c:=recText ⟨kd,ag,tr,n,true,⟨id,lock⟩⟩) (by rw[recText_eq,hrn];simp) (by simp only[List.length_append,List.length_cons,List.length_nil];omega),rfl⟩
 |false=>
  refine⟨fun h=>(by cases h),fun _=> ?_⟩
  intro b
  generalize hrn:recNums ⟨kd,ag,tr,n,false,⟨id,lock⟩⟩=ns at hnn
  have hnl:ns.length=6:=by rw[←hrn];rfl
  have hget:∀(m:Nat)(x:Int),ns[m]?=some x->([.int .i64 kd,.int .i64 ag,.int .i64 tr,.int .i64 n,.int .i64 0,.int .i64 id]:List Value)[m]?=some (.int .i64 x):=fun m x hx=>by
   have e:([.int .i64 kd,.int .i64 ag,.int .i64 tr,.int .i64 n,.int .i64 0,.int .i64 id]:List Value)=ns.map i64:=by rw[←hrn];rfl
   rw[e,List.getElem?_map,hx];rfl
  refine⟨fun vs H'=>∃(m:Nat)(p:O)(a3:O)(c3:Nat),vs=[i64 m,.agg #[.pointer p,.slice a3 (numText (ns.take m)).length c3]]/\m<=6/\(p=none∨p=some ⟨b,0,none⟩)/\Row base H' 5 1 a3 (numText (ns.take m)).length c3 (u8s (numText (ns.take m))),upTo 6 0,
   ⟨0,none,none,0,rfl,by omega,.inl rfl,Row.nil⟩,fun n2 v a3 n3 c3 H2 hN2 hI=> ?_⟩
  obtain⟨m,p,a3',c3',hvs,hm,hpp,hR⟩:=hI
  obtain⟨rfl,rfl,rfl,rfl,rfl⟩:n2=(m:Int)/\v= .pointer p/\a3=a3'/\n3=(numText (ns.take m)).length/\c3=c3':=by simpa using hvs
  have hlen:=numText_len (l:=ns.take m) fun x hx=>hnn x (List.mem_of_mem_take hx)
  have htl:(ns.take m).length<=6:=by rw[List.length_take];omega
  refine⟨fun hlt=>⟨by omega,hlt,?_⟩,fun hge=> ?_⟩
  ·have hmn:m<ns.length:=by omega
   have hx:ns[m]?=some ns[m]:=List.getElem?_eq_getElem hmn
   generalize ns[m]=x at hx
   have hxr:=hnn x (List.mem_of_getElem? hx)
   have hxl:=itoa_short3 (n:=x) hxr.1 (by omega)
   refine⟨x,by rw[Int.toNat_natCast,Nat.mul_one];exact hget m x hx,(l_itoa (hL.ext hN2.ext) (by omega) (by omega)).str1 fun H3 e3 hN3=>⟨_,runs_add rfl (by simp only[List.length_cons,List.length_nil];omega),?_⟩⟩
   refine(cCopyCheck (v:= .slice a3 (numText (ns.take m)).length c3) hpp).mono fun r css H4 e4 hq=> ?_
   obtain⟨rfl,rfl,rfl⟩:=hq
   refine⟨rfl,_,_,_,_,rfl,fun hN4=>⟨_,hR.ext e3,by rw[size_mk];simp only[List.length_append,List.length_cons,List.length_nil];omega,fun a6 c6 H6 hG6 hR6=> ?_⟩⟩
   rintro r rfl
   rw[wrap_in (by omega) (by omega)]
   have e6:numText (ns.take (m+1))=numText (ns.take m)++(Lib.itoa x++[32]):=by rw[take_at hx,numText_snoc]
   have e7:(numText (ns.take (m+1))).length=(numText (ns.take m)).length+(⟨(Lib.itoa x++[32]).toArray⟩:ByteArray).size:=by rw[e6,List.length_append];rfl
   refine⟨rfl,⟨m+1,some ⟨b,0,none⟩,a6,c6,by rw[e7];rfl,by omega,.inr rfl,?_⟩,by simp[upTo];omega⟩
   rw[e7,e6]
   have e8:u8s (numText (ns.take m)++(Lib.itoa x++[32]))=u8s (numText (ns.take m))++u8s (⟨(Lib.itoa x++[32]).toArray⟩:ByteArray).data.toList:=by rw[data_mk];simp[u8s]
   rw[e8]
   exact hR6
  ·obtain rfl:m=6:=by omega
   rw[List.take_of_length_le (by omega)] at hlen hR⊢
   have hll:(lockText lock).length<=72:=lockText_len hlk
   refine(cLockPrint (hL.ext hN2.ext) (hp.ext' hN2.ext)).strE fun H3 e3 hN3=>⟨rfl,?_,numText ns,hR.ext e3,fun H4 _ _=> ?_⟩
   ·have:numText ns≠[]:=by
     intro e
     cases ns with
     |nil=>simp at hnl
     |cons x t=>unfold numText at e;simp at e
    exact List.length_pos_iff.2 this
   ·rw[if_pos hlk,hlk]
    exact⟨_,runs_add rfl (by simp only[List.length_cons,List.length_nil];omega),_,runs_add (c:=recText ⟨kd,ag,tr,n,false,⟨id,lock⟩⟩) (by rw[recText_eq,hrn];simp) (by simp only[List.length_append,List.length_cons,List.length_nil];omega),rfl⟩
end
open Go Go.Proofs
def rec0:Recd:=⟨0,0,0,0,false,⟨0,[]⟩⟩
def recGet(x:Except Int Recd):Recd:=match x with| .ok r=>r| .error _=>rec0
theorem nums_cons{w:List UInt8}{ws:List (List UInt8)}{n:Int}(h:num w=some n):nums (w::ws)=(nums ws).map (n:: ·):=by rw[nums,h]
theorem nums_bad{w:List UInt8}{ws:List (List UInt8)}(h:num w=none):nums (w::ws)=none:=by rw[nums,h]
def recFin(ns:Option (List Int))(w6:List UInt8):Except Int Recd:=
 if w6.head?=some 61 then
  (match ns with
   |some [k,a,tr,n,g,id]=>
    if g<0∨1<g then .error 1 else
    (match lockRead (w6.drop 1) with
    | .error e=> .error e
    | .ok l=>let r:Recd:=⟨k,a,tr,n,decide (g=1),⟨id,l⟩⟩
     if recErr r=0 then .ok r else .error (recErr r))
   |_=> .error 1)
 else .error 1
theorem recRead_len{s:List UInt8}(h:(cuts 32 s).length≠7):recRead s= .error 1:=by
 unfold recRead
 split
 ·rename_i hc
  rw[hc] at h;exact absurd rfl h
 ·rfl
theorem recRead_seven{s:List UInt8}{ws:List (List UInt8)}{w6:List UInt8}(hc:cuts 32 s=ws)(hl:ws.length=7)(h6:ws[6]?=some w6):recRead s=recFin (nums (ws.take 6)) w6:=by
 match ws,hl,h6 with
 | [v0,v1,v2,v3,v4,v5,v6],_,h6=>
  obtain rfl:v6=w6:=by simpa using h6
  unfold recRead
  rw[hc]
  rfl
theorem recFin_none{w:List UInt8} :recFin none w= .error 1:=by unfold recFin;split<;>rfl
theorem recFin_head{ns:Option (List Int)}{w:List UInt8}(h:¬w.head?=some 61):recFin ns w= .error 1:=by unfold recFin;rw[if_neg h]
theorem recFin_good{k a tr n g id:Int}{w:List UInt8}(h:w.head?=some 61)(hg:g<0∨1<g):recFin (some [k,a,tr,n,g,id]) w= .error 1:=by rw[recFin,if_pos h];dsimp only;rw[if_pos hg]
theorem recFin_lock{k a tr n g id:Int}{w:List UInt8}(h:w.head?=some 61)(hg:¬(g<0∨1<g)):recFin (some [k,a,tr,n,g,id]) w=match lockRead (w.drop 1) with
  | .error e=> .error e
  | .ok l=>if recErr ⟨k,a,tr,n,decide (g=1),⟨id,l⟩⟩=0 then .ok ⟨k,a,tr,n,decide (g=1),⟨id,l⟩⟩ else .error (recErr ⟨k,a,tr,n,decide (g=1),⟨id,l⟩⟩):=by
 rw[recFin,if_pos h];dsimp only;rw[if_neg hg]
theorem prefix61(w:List UInt8):Lib.hasPrefix w [61]=decide (w.head?=some 61):=by
 unfold Lib.hasPrefix
 cases w with
 |nil=>rfl
 |cons b r=>
  show((61:UInt8)==b&&List.isPrefixOf [] r)=_
  by_cases h:b=61
  ·subst h;simp
  ·simp[h,Ne.symm h]
theorem trim61{w:List UInt8}(h:w.head?=some 61):Lib.trimPrefix w [61]=w.drop 1:=by
 unfold Lib.trimPrefix
 rw[prefix61,h];rfl
theorem six{ns:List Int}(h:ns.length=6):∃k a tr n g id,ns=[k,a,tr,n,g,id]:=by
 match ns,h with
 | [k,a,tr,n,g,id],_=>exact⟨k,a,tr,n,g,id,rfl⟩
theorem take_set_next{α:Type}{cs:List α}{m:Nat}{v:α}(h:m<cs.length):(cs.set m v).take (m+1)=cs.take m++[v]:=by
 rw[take_at (x:=v) (by simp[h]),List.take_set_of_le (Nat.le_refl m)]
theorem Fresh.mv{H H1 H2 H3:Heap}{e:TypeId}{sz:Nat}{a:O}{n c:Nat}{cs:List Value}(h:Fresh H1 H2 e sz a n c cs)(e1:Ext H H1)(e2:Ext H2 H3):Fresh H H3 e sz a n c cs:=by
 obtain⟨h1,h2,h3,h4⟩:=h
 refine⟨h1,h2,h3,h4.imp id fun⟨g,k,q1,q2,q3,q4⟩=>⟨g,k,q1,?_,e2 _ _ q3,q4⟩⟩
 cases hg:H g with
 |none=>rfl
 |some k'=>rw[e1 g k' hg] at q2;cases q2
theorem neNilE{xo:Operand} :RunsTo Tryz.prog (binRun .neq 263 xo (.const .nilIface) .nilIface .nilIface) (.bool false):=by
 intro w
 have hu:=run_underlying Tryz.underlying263
 have hg:(eqGuard .neq 263 xo (.const .nilIface) .nilIface .nilIface).run Tryz.prog w= .ok () w:=by simp[eqGuard]
 have he:(Op.equalIn (9999+1) 263 .nilIface .nilIface).run Tryz.prog w= .ok true w:=by
  rw[Op.equalIn]
  simp only[Sem.run_bind,hu,Result.andThen_ok]
  rfl
 simp only[binRun,Sem.run_bind,hg,Result.andThen_ok]
 simp[binOp,Op.equal,show Op.maxDepth=9999+1 from rfl,he]
theorem neIfaceE{xo:Operand}{t:TypeId}{p:Value} :RunsTo Tryz.prog (binRun .neq 263 xo (.const .nilIface) (.iface t p) .nilIface) (.bool true):=by
 intro w
 have hu:=run_underlying Tryz.underlying263
 have hg:(eqGuard .neq 263 xo (.const .nilIface) (.iface t p) .nilIface).run Tryz.prog w= .ok () w:=by simp[eqGuard]
 have he:(Op.equalIn (9999+1) 263 (.iface t p) .nilIface).run Tryz.prog w= .ok false w:=by
  rw[Op.equalIn]
  simp only[Sem.run_bind,hu,Result.andThen_ok]
  rfl
 simp only[binRun,Sem.run_bind,hg,Result.andThen_ok]
 simp[binOp,Op.equal,show Op.maxDepth=9999+1 from rfl,he]
def RecOut(H:Heap)(x:Except Int Recd)(v:Value)(H':Heap):Prop:=
 ∃a n c,v= .tuple #[recArg (recGet x) a n c,i64 (errOf x)]/\Fresh H H' 91 2 a n c ((recGet x).rel.lock.flatMap pinCells)
theorem RecOut.bad{H H':Heap}{e:Int} :RecOut H (.error e) (.tuple #[.agg #[.int .i64 0,.int .i64 0,.int .i64 0,.int .i64 0,.bool false,.int .i64 0,.slice none 0 0],.int .i64 e]) H':=⟨none,0,0,rfl,Fresh.zero⟩
section
variable {H : Heap} (hL : Lb H)
include hL
theorem cNoteParse{s:ByteArray} :Spec Tryz.prog 196 [.string s] H (RecOut H (if 60000<s.size then .error 2 else recRead s.data.toList)):=by
 refine TryzvcJ Tryz.func196 (by kernel_rfl) (by kernel_rfl) _ rfl (fun base K=>vd21 s base H K) fun base hb=> ?_
 refine fun b=>⟨fun h=> ?_,fun h=> ?_⟩
 ·rw[if_pos (by omega)];exact RecOut.bad
 rw[if_neg (by omega)]
 have hsz:s.data.toList.length<=60000:=by rw[←size_data];omega
 generalize hws:cuts 32 s.data.toList=ws
 have hwm:∀w∈ws,w.length<=60000:=fun w hw=>by rw[←hws] at hw;have:=mem_cuts_len hw;omega
 refine(l_split hL (s:=s) (c:=32) (by omega)).mono fun v H1 e1 hv=> ?_
 obtain⟨g,N,hv,hS⟩:=hv
 rw[hws] at hS
 have hNl:=hS.len
 refine⟨_,_,_,hv,fun hN1=>⟨fun h7=> ?_,fun h7=> ?_⟩⟩
 ·rw[recRead_len (by rw[hws];omega)];exact RecOut.bad
 obtain rfl:N=7:=by omega
 have h6l:ws[6]?=some ws[6]:=List.getElem?_eq_getElem (by omega)
 generalize ws[6]=w6 at h6l
 rw[recRead_seven hws hNl h6l]
 generalize hfw:ws.take 6=fw
 have hfl:fw.length=6:=by rw[←hfw,List.length_take];omega
 have hfg:∀(m:Nat) w,m<6->ws[m]?=some w->fw[m]?=some w:=fun m w hm hw=>by rw[←hfw,List.getElem?_take,if_pos hm];exact hw
 refine fun b1=>⟨rfl,fun vs H'=>∃(k:Int)(A:Value)(m:Nat)(ns:List Int)(cs:List Value),vs=[i64 k,i64 m,A,.agg cs.toArray]/\m<=6/\cs.length=6/\ns.length=m/\cs.take m=ns.map i64/\nums fw=(nums (fw.drop m)).map (ns++ ·)/\Ext H1 H',upTo 6 1,
  ⟨0,_,0,[],_,rfl,by omega,rfl,rfl,rfl,by simp,Ext.refl _⟩,fun n1 n2 n3 n4 n5 n6 b2 n7 a3 n8 c1 cs hcs H2 hN2 hI=> ?_⟩
 obtain⟨k',A',m,ns,cs',hvs,hm,_,hnl,hct,hI,hE⟩:=hI
 obtain⟨rfl,rfl,rfl,rfl⟩:n1=k'/\n2=(m:Int)/\_=A'/\cs=cs':=by simpa using hvs
 refine⟨fun hlt=>hS.str hE (by omega) (by omega) fun w hw=> ?_,fun hge=> ?_⟩
 ·rw[Int.toNat_natCast] at hw
  have hwz:=hwm w (List.mem_of_getElem? hw)
  have hmw:=hfg m w (by omega) hw
  rw[drop_at hmw] at hI
  refine(l_atoi (hL.ext hN2.ext) (s:=⟨w.toArray⟩) (by rw[size_mk];omega)).spec.mono fun v H3 e3 hv3=> ?_
  obtain⟨⟨n9,e9,hv3,h9⟩,_⟩:=hv3
  rw[data_mk] at h9
  rcases h9 with⟨hok,rfl⟩|⟨hno,t,p,rfl⟩
  ·have hbd:=Lib.atoiAll_bounds hok
   refine⟨n9,.inl ⟨hv3,fun hN3=>⟨false,neNilE,fun h=>(by cases h),fun _=>hS.str (Ext.trans hE e3) (by omega) (by omega) fun w' hw'=> ?_⟩⟩⟩
   rw[Int.toNat_natCast,hw] at hw'
   obtain rfl:=Option.some.inj hw'
   refine(l_itoa (hL.ext (Ext.trans hN2.ext e3)) hbd.1 hbd.2).str1 fun H4 e4 hN4=>⟨_,neS,fun h=> ?_,fun h=> ?_⟩
   ·rw[data_mk,data_mk] at h
    have h:¬Lib.itoa n9=w:=by simpa using h
    have hn:num w=none:=by rw[num,hok];simp[h]
    rw[nums_bad hn,Option.map_none] at hI
    rw[hI,recFin_none];exact RecOut.bad
   ·rw[data_mk,data_mk] at h
    have h:Lib.itoa n9=w:=by simpa using h
    have hn:num w=some n9:=by rw[num,hok];simp[h]
    rw[nums_cons hn] at hI
    refine⟨by omega,hlt,by rw[hcs,Int.toNat_natCast];omega,?_⟩
    rintro r rfl
    rw[wrap_in (by omega) (by omega)]
    rw[show 0+Int.toNat (m:Int)*1=m from by omega]
    refine⟨by simp[hcs],⟨n1,_,m+1,ns++[n9],cs.set m (.int .i64 n9),rfl,by omega,by simp[hcs],by simp[hnl],?_,by rw[hI];cases nums (fw.drop (m+1))<;>simp,Ext.trans hE (Ext.trans e3 e4)⟩,by simp[upTo];omega⟩
    rw[take_set_next (by omega),hct];simp
  ·refine⟨n9,.inr ⟨t,p,hv3,fun hN3=>⟨true,neIfaceE,fun _=> ?_,fun h=>absurd rfl h⟩⟩⟩
   have hn:num w=none:=by
    unfold num
    split
    ·rename_i v hv;exact absurd hv (hno v)
    ·rfl
   rw[nums_bad hn,Option.map_none] at hI
   rw[hI,recFin_none];exact RecOut.bad
 ·obtain rfl:m=6:=by omega
  rw[List.drop_of_length_le (by omega),nums,Option.map_some,List.append_nil] at hI
  obtain⟨k,ag,tr,n,gg,id,rfl⟩:=six hnl
  rw[List.take_of_length_le (by omega)] at hct
  subst hct
  rw[hI]
  have hw6:=hwm w6 (List.mem_of_getElem? h6l)
  refine hS.str (k:=6) hE (by omega) (by omega) fun w hw=> ?_
  obtain rfl:w6=w:=by rw[show Int.toNat 6=6 from rfl,h6l] at hw;exact Option.some.inj hw
  refine(l_cutPrefix (s:=⟨w6.toArray⟩) (p:=⟨#[61]⟩)).cut2 fun H3 e3 hN3=> ?_
  rw[data_mk,show(⟨#[61]⟩:ByteArray).data.toList=[61] from rfl,prefix61]
  refine⟨¬w6.head?=some 61∨gg<0∨1<gg,⟨fun hp=>⟨rfl,subH,.inl (by simpa using hp)⟩,fun hp=>⟨gg,rfl,fun h0=>⟨rfl,subH,.inr (.inl h0)⟩,fun h0=>⟨gg,rfl,rfl,subH,?_⟩⟩⟩,fun hφ=> ?_,fun hφ=> ?_⟩
  ·have hp:w6.head?=some 61:=by simpa using hp
   exact⟨fun h=>(h.resolve_left (fun x=>x hp)).resolve_left h0,fun h=> .inr (.inr h)⟩
  ·have:recFin (some [k,ag,tr,n,gg,id]) w6= .error 1:=by
    by_cases hp:w6.head?=some 61
    ·exact recFin_good hp (hφ.resolve_left (fun x=>x hp))
    ·exact recFin_head hp
   rw[this];exact RecOut.bad
  ·have hp:w6.head?=some 61:=Decidable.byContradiction fun x=>hφ (.inl x)
   have hg:¬(gg<0∨1<gg):=fun x=>hφ (.inr x)
   rw[recFin_lock hp hg,trim61 hp]
   have hdl:(w6.drop 1).length<=60000:=by rw[List.length_drop];omega
   refine(cLockParse (hL.ext (Ext.trans hN2.ext e3)) (s:=⟨(w6.drop 1).toArray⟩)).mono fun v H4 e4 hv4=> ?_
   obtain⟨a4,m4,c4,hv4,hF4⟩:=hv4
   rw[if_neg (by rw[size_mk];omega),data_mk] at hv4 hF4
   refine⟨a4,m4,c4,_,hv4,fun hN4=>⟨fun h=> ?_,fun h=> ?_⟩⟩
   ·cases hr:lockRead (w6.drop 1) with
    |ok l=>rw[hr] at h;exact absurd rfl h
    |error e=>exact RecOut.bad
   ·obtain⟨lk,hr⟩:=errOf_zero (Decidable.not_not.1 h)
    rw[hr] at hF4⊢
    dsimp only
    have hpn:=(pins_of_row (hF4.row hN4):Pins H4 a4 m4 lk)
    refine⟨k,rfl,ag,rfl,tr,rfl,n,rfl,gg,rfl,id,rfl,fun _=> ?_⟩
    refine(cRecCheck (r:=⟨k,ag,tr,n,decide (gg=1),⟨id,lk⟩⟩) hpn).int1 fun H5 e5 hN5=>⟨fun h5=> ?_,fun h5=> ?_⟩
    ·rw[if_neg h5];exact RecOut.bad
    ·rw[if_pos (Decidable.not_not.1 h5)]
     exact⟨a4,m4,c4,rfl,hF4.mv (Ext.trans hN2.ext e3) e5⟩
end
open Go Go.Proofs
open Go Go.Proofs
def u8Cell(b:UInt8):List Value:=[.int .u8 b.toNat]
theorem u8Cell_len(b:UInt8):(u8Cell b).length=1:=rfl
theorem u8s_flat:∀l:List UInt8,u8s l=l.flatMap u8Cell
 | []=>rfl
 |x::r=>by
  have:=u8s_flat r
  unfold u8s at this⊢
  rw[List.map_cons,this];rfl
abbrev Bytes(H:Heap)(a:O)(n:Nat)(bs:List UInt8):Prop:=Sl (REnc u8Cell) 1 H a n bs
theorem Bytes.ext'{H H':Heap}{a:O}{n:Nat}{bs:List UInt8}(h:Bytes H a n bs)(e:Ext H H'):Bytes H' a n bs:=Sl.ext REnc.mono h e
theorem Bytes.conv{H H':Heap}{a:O}{n:Nat}{bs:List UInt8}(h:Bytes H a n bs)(e:Ext H H'):bs.length=n/\(n=0∨ ∃(b o:Nat),a=some ⟨b,o,none⟩/\cellsAt H' b o 0 (u8s bs)):=
 ⟨h.len,by rw[u8s_flat];exact(h.cells u8Cell_len e).2⟩
theorem Sl.u8{H H':Heap}{a:O}{n:Nat}{xs:List UInt8}(h:Bytes H a n xs)(e:Ext H H'){k:Int}(h0:0<=k)(h1:k<n){F:Int->Prop}(hF:∀x,xs[k.toNat]?=some x->F x.toNat):
  ∃(b o:Nat),a=some ⟨b,o,none⟩/\0<=k/\k<n/\∃x:Int,H'.cell b (o+k.toNat*1)=some (.int .u8 x)/\F x:=by
 obtain⟨b,o,r,x,ha,hx,hr,hc⟩:=h.get h0 h1
 obtain rfl:=hr
 exact⟨b,o,ha,h0,h1,_,Heap.cell_next e (hc 0 _ rfl),hF x hx⟩
theorem Fresh.bytes{H H':Heap}{a:O}{n c:Nat}{bs:List UInt8}(h:Fresh H H' 5 1 a n c (bs.flatMap u8Cell)):Bytes (newOf H H') a n bs:=h.sl_new u8Cell_len (by omega)
theorem newOf_right{H H1 H2:Heap}(e:Ext H1 H2):Ext (newOf H H1) (newOf H H2):=fun x k h=>by
 have h1:=newOf_away x k h
 have h2:=newOf_ext x k h
 unfold newOf
 rw[h1]
 exact e x k h2
abbrev dskArg(sa:O)(sn sc:Nat)(wa:O)(wn wc:Nat):Value:= .agg #[.slice sa sn sc,.slice wa wn wc]
structure DskAt(H:Heap)(d:Dsk)(sa:O)(sn sc:Nat)(wa:O)(wn wc:Nat):Prop where
 safe:Bytes H sa sn d.safe
 wait:Bytes H wa wn d.wait
 sle:sn<=sc
 wle:wn<=wc
theorem DskAt.ext{H H':Heap}{d:Dsk}{sa wa:O}{sn sc wn wc:Nat}(h:DskAt H d sa sn sc wa wn wc)(e:Ext H H'):DskAt H' d sa sn sc wa wn wc:=⟨h.safe.ext' e,h.wait.ext' e,h.sle,h.wle⟩
theorem DskAt.zero{H:Heap} :DskAt H dsk0 none 0 0 none 0 0:=⟨Sl.nil,Sl.nil,by omega,by omega⟩
theorem cCloneB{H:Heap}{a:O}{l c:Nat}{xs:List UInt8}(hx:Bytes H a l xs)(hl:l<=100000):Spec Tryz.prog 169 [.slice a l c] H fun v H'=>∃a n c,v= .slice a n c/\Fresh H H' 5 1 a n c (xs.flatMap u8Cell):=by
 refine TryzvcJ Tryz.func169 (by kernel_rfl) (by kernel_rfl) _ rfl (fun base K=>vd61 a l c base H K) fun base hb=>⟨_,eqNil Tryz.underlying33,fun h=> ?_,fun h=> ?_⟩
 ·obtain rfl:a=none:=by cases a<;>simp at h⊢
  obtain⟨_,rfl⟩:=hx.addr_nil
  exact⟨none,0,0,rfl,Fresh.zero⟩
 ·intro g H1 hN1 _ hg
  obtain⟨h1,h2,h3⟩:=hx.copied u8Cell_len (fun _=>rfl) hN1.ext
  exact⟨[],_,Row.zero,h1,h2,h3,by omega,by omega,fun a3 c3 H3 hG hR=>⟨_,_,_,rfl,hR.fresh hb⟩⟩
theorem cEqB{H:Heap}{a a':O}{l c l' c':Nat}{xs ys:List UInt8}(hx:Bytes H a l xs)(hy:Bytes H a' l' ys):Spec Tryz.prog 129 [.slice a l c,.slice a' l' c'] H fun v _=>v= .bool (decide (xs=ys)):=by
 refine TryzvcJ Tryz.func129 (by kernel_rfl) (by kernel_rfl) _ rfl (fun base K=>vd65 a a' l c l' c' base H K) fun base hb=> ?_
 have hxl:=hx.len
 have hyl:=hy.len
 have hle:=hx.le
 refine⟨fun h=> ?_,fun h=> ?_⟩
 ·rw[decide_eq_false]
  rintro rfl
  omega
 have hll:l=l':=by omega
 refine⟨fun vs _=>∃(b:Bool)(k:Nat),vs=[.bool b,i64 k]/\k<=l/\(xs.drop k=ys.drop k↔xs=ys),upTo l 1,⟨false,0,rfl,by omega,by simp⟩,fun b n H' hN hI=> ?_⟩
 obtain⟨b',k,hvs,hk,hI⟩:=hI
 obtain⟨rfl,rfl⟩:b=b'/\n=(k:Int):=by simpa using hvs
 refine⟨fun hlt=>hx.u8 hN.ext (by omega) hlt fun p hp=>hy.u8 hN.ext (by omega) (by omega) fun q hq=>⟨fun h=> ?_,fun h=> ?_⟩,fun hge=> ?_⟩
 ·rw[Int.toNat_natCast] at hp hq
  rw[drop_at hp,drop_at hq] at hI
  rw[decide_eq_false]
  intro e
  obtain⟨rfl,_⟩:=List.cons.inj (hI.2 e)
  exact h rfl
 ·rw[Int.toNat_natCast] at hp hq
  rw[drop_at hp,drop_at hq] at hI
  have hpq:p=q:=UInt8.toNat_inj.1 (by have:=Decidable.not_not.1 h;omega)
  rintro r rfl
  rw[wrap_in (by omega) (by omega)]
  exact⟨⟨b,k+1,rfl,by omega,by rw[←hI];simp[hpq]⟩,by simp[upTo];omega⟩
 ·rw[decide_eq_true]
  exact hI.1 (by rw[drop_all hxl (by omega),drop_all hyl (by omega)])
theorem cGrowB{H:Heap}{k:Int}(h0:0<=k)(h1:k<=1000000):Spec Tryz.prog 152 [.slice none 0 0,.int .i64 k] H fun v H'=>∃a c,v= .slice a 0 c/\Fresh H H' 5 1 a 0 c []:=by
 refine TryzvcJ Tryz.func152 (by kernel_rfl) (by kernel_rfl) _ rfl (fun base K=>vd79 none 0 0 k base H K) fun base hb=> ?_
 refine⟨fun h=>by omega,fun _=>fun r hr=> ?_⟩
 obtain rfl:r=0:=by rw[hr,wrap_in (by omega) (by omega)];omega
 rintro r rfl
 rw[wrap_in (by omega) (by omega)]
 refine⟨fun h=>⟨by omega,by omega,[],k.toNat,by omega,by omega,by omega,Row.zero,by omega,by omega,fun g c' H1 hN hg hR=>⟨by omega,by omega,?_⟩⟩,fun h=>⟨none,0,rfl,Fresh.zero⟩⟩
 refine⟨_,_,rfl,?_⟩
 have:=hR.short (m:=0) (by omega)
 rw[Nat.zero_mul,List.take_zero] at this
 exact this.fresh hb
theorem sl_box_rows{α:Type}{R:Rep α}{sz:Nat}{H:Heap}{g:Nat}{ty:TypeId}{rs:List (List Value)}{xs:List α}{n:Nat}(h:H g=some (boxKB ty rs.flatten))(hw:∀r∈rs,r.length=sz)(ha:AllR R H rs xs)(hn:rs.length=n)(hle:(n:Int)<=9223372036854775807):Sl R sz H (some ⟨g,0,none⟩) n xs:=
 Sl.of_has (Has.of_box h rfl hw hn hle) ha.len fun i r x hr hx=>ha.get hr hx
theorem cConcatB{H:Heap}{a:O}{l c:Nat}{bss:List (List UInt8)}(hx:Sl (RSl (REnc u8Cell) 1) 1 H a l bss)(hl:l<=100)(hn:bss.flatten.length<=200000):Spec Tryz.prog 80 [.slice a l c] H fun v H'=>∃a n c,v= .slice a n c/\Fresh H H' 5 1 a n c (bss.flatten.flatMap u8Cell):=by
 refine TryzvcJ Tryz.func80 (by kernel_rfl) (by kernel_rfl) _ rfl (fun base K=>vd62 a l c base H K) fun base hb=> ?_
 have hbl:=hx.len
 have hpart:∀k,(bss.take k).flatten.length<=bss.flatten.length:=fun k=>by
  have:(bss.take k++bss.drop k).flatten.length=bss.flatten.length:=by rw[List.take_append_drop]
  rw[List.flatten_append,List.length_append] at this
  omega
 have hnext:∀k x,bss[k]?=some x->(bss.take (k+1)).flatten=(bss.take k).flatten++x:=fun k x h=>by
  rw[take_at h,List.flatten_append];simp
 refine⟨fun vs H'=>∃(k:Nat),vs=[i64 ((bss.take k).flatten.length:Nat),i64 k]/\k<=l,upTo l 1,⟨0,rfl,by omega⟩,fun n n1 H1 hN1 hI=> ?_⟩
 obtain⟨k,hvs,hk⟩:=hI
 obtain⟨rfl,rfl⟩:n=((bss.take k).flatten.length:Nat)/\n1=(k:Int):=by simpa using hvs
 refine⟨fun hlt=>hx.slice hN1.ext (by omega) hlt fun x a' n' c' hxk hS=> ?_,fun hge=> ?_⟩
 ·rw[Int.toNat_natCast] at hxk
  have h1:=hS.len
  have h2:=hpart (k+1)
  rw[hnext k x hxk,List.length_append] at h2
  rintro r rfl
  rw[wrap_in (by omega) (by omega)]
  refine⟨fun h=>by omega,fun _=> ?_⟩
  rintro r rfl
  rw[wrap_in (by omega) (by omega)]
  exact⟨⟨k+1,by rw[hnext k x hxk,List.length_append,h1];rfl,by omega⟩,by simp[upTo];omega⟩
 ·have h2:=hpart k
  refine(cGrowB (k:=((bss.take k).flatten.length:Nat)) (by omega) (by omega)).mono fun v H2 e2 hv=> ?_
  obtain⟨a2,c2,rfl,hF⟩:=hv
  refine⟨a2,0,c2,rfl,fun hN2=> ?_⟩
  have hap:∀ {g:Nat} {k:KB},H g=some k->c2≠0->a2≠some ⟨g,0,none⟩:=fun{g k} hg hc e=>by
   rcases hF.2.2.2 with⟨_,h⟩|⟨g',k',h1,h2,_⟩
   ·exact hc h
   ·rw[e] at h1;simp at h1;subst h1
    rw[hN1.ext _ _ hg] at h2;cases h2
  refine⟨fun vs H'=>∃(k:Nat)(a3:O)(c3:Nat),vs=[.slice a3 (bss.take k).flatten.length c3,i64 k]/\k<=l/\Row base H' 5 1 a3 (bss.take k).flatten.length c3 ((bss.take k).flatten.flatMap u8Cell),upTo l 1,
   ⟨0,a2,c2,rfl,by omega,hF.row hN2⟩,fun a3 n3 c3 n4 H3 hN3 hI=> ?_⟩
  obtain⟨k,a3',c3',hvs,hk,hR⟩:=hI
  obtain⟨⟨rfl,rfl,rfl⟩,rfl⟩:(a3=a3'/\n3=(bss.take k).flatten.length/\c3=c3')/\n4=(k:Int):=by simpa using hvs
  refine⟨fun hlt=>hx.slice hN3.ext (by omega) hlt fun x a' n' c' hxk hS=> ?_,fun hge=> ?_⟩
  ·rw[Int.toNat_natCast] at hxk
   have h1:=hS.len
   have h3:=hpart (k+1)
   rw[hnext k x hxk,List.length_append] at h3
   obtain⟨p1,p2,p3⟩:=hS.copied u8Cell_len (fun _=>rfl) hN3.ext
   refine⟨_,_,hR,p1,p2,p3,by omega,by omega,fun a5 c5 H5 hG5 hR5=> ?_⟩
   rintro r rfl
   rw[wrap_in (by omega) (by omega)]
   refine⟨⟨k+1,a5,c5,by rw[hnext k x hxk,List.length_append,h1];rfl,by omega,?_⟩,by simp[upTo];omega⟩
   rw[hnext k x hxk,List.length_append,h1,List.flatMap_append]
   exact hR5
  ·obtain rfl:k=l:=by omega
   rw[←hbl,List.take_length] at hR⊢
   exact⟨_,_,_,rfl,hR.fresh hb⟩
section
variable {H : Heap} (hL : Lb H)
include hL
theorem cLines{s:ByteArray}{most:Nat}(hs:s.size<=60000)(hm:most<=200):Spec Tryz.prog 143 [.string s,.int .i64 most] H fun v H'=>∃a n c G rows,v= .tuple #[.slice a n c,i64 (linesF most 0 s.data.toList).2.1,i64 (linesF most 0 s.data.toList).2.2]/\
  NewSl RRec 7 126 H G H' a n c rows (linesF most 0 s.data.toList).1:=by
 refine TryzvcJ Tryz.func143 (by kernel_rfl) (by kernel_rfl) _ rfl (fun base K=>vd63 s most base H K) fun base hb=> ?_
 have hsd:=size_data s
 generalize hS:s.data.toList=S at hsd
 have hse:s=⟨S.toArray⟩:=by rw[←hS]
 generalize hR:linesF most 0 S=R
 refine⟨fun vs H'=>∃(rest:List UInt8)(a:O)(n c:Nat)(n1 n2:Int)(a1:O)(n3 c1:Nat)(G:Heap)(rows:List (List Value))(xs:List Recd),vs=[.string ⟨rest.toArray⟩,.slice a n c,i64 n1,i64 n2,.slice a1 n3 c1]/\
   OwnSl RRec 7 126 base G H' a1 n3 c1 rows xs/\Away H G/\rest.length<=S.length/\n3<=most/\R=(xs++(linesF most n3 rest).1,(S.length-rest.length)+(linesF most n3 rest).2.1,(linesF most n3 rest).2.2),
  fun vs=>match vs with| .string s::_=>s.size|_=>0,
  ⟨S,none,0,0,0,0,none,0,0,fun _=>none,[],[],by rw[hse],OwnSl.zero (fun _ _ h=>by cases h),fun _ _ h=>(by cases h),Nat.le_refl _,by omega,by simp[←hR]⟩,fun s1 a n c n1 n2 a1 n3 c1 H1 hN1 hI=> ?_⟩
 obtain⟨rest,a',n',c',n1',n2',a1',n3',c1',G,rows,xs,hvs,hO,hAw,hrl,hn3,hRR⟩:=hI
 obtain⟨rfl,⟨rfl,rfl,rfl⟩,rfl,rfl,rfl,rfl,rfl⟩:s1=⟨rest.toArray⟩/\(a=a'/\n=n'/\c=c')/\n1=n1'/\n2=n2'/\a1=a1'/\n3=n3'/\c1=c1':=by simpa using hvs
 obtain⟨hrlen,hxlen⟩:=hO.rlen (by omega)
 refine⟨_,neS,fun h=> ?_,fun h=> ?_⟩
 ·have hne:rest≠[]:=by
   have h:=of_decide_eq_true h
   rwa[data_mk] at h
  have hc:=l_cut (hL.ext hN1.ext) (s:=⟨rest.toArray⟩) (sep:=⟨#[10]⟩) (by rw[size_mk];omega)
  rw[data_mk,show(⟨#[10]⟩:ByteArray).data.toList=[10] from rfl] at hc
  rcases cut_cases 10 rest with⟨hno,hcut⟩|⟨w,t,hrest,hw,hcut⟩
  ·rw[hcut] at hc
   rw[linesF_torn hno hne] at hRR
   refine hc.cut3 fun H2 e2 hN2=>⟨fun _=> ?_,fun h=>absurd rfl h⟩
   rintro r rfl
   rw[size_mk rest,hsd,wrap_in (by omega) (by omega)]
   subst hRR
   rw[show(S.length:Int)-rest.length=((S.length-rest.length:Nat):Int) from by omega]
   refine⟨a1,n3,c1,G,rows,rfl,?_⟩
   rw[List.append_nil];exact(hO.ext e2).new hb hAw
  ·rw[hcut] at hc
   have hwl:w.length+t.length+1=rest.length:=by rw[hrest];simp;omega
   refine hc.cut3 fun H2 e2 hN2=>⟨fun h=>(by cases h),fun _=> ?_⟩
   have hps:=cNoteParse (hL.ext (Ext.trans hN1.ext e2)) (s:=⟨w.toArray⟩)
   rw[if_neg (by rw[size_mk];omega),data_mk] at hps
   refine hps.mono fun v H3 e3 hv=> ?_
   obtain⟨a7,n7,c7,hv,hF⟩:=hv
   refine⟨_,_,_,_,_,_,a7,n7,c7,_,hv,fun hN3=>fun b1=>⟨fun h=> ?_,fun h=> ?_⟩⟩
   ·cases hr:recRead w with
    |ok r=>rw[hr] at h;exact absurd rfl h
    |error e=>
     rw[hrest,linesF_err hw hr,←hrest] at hRR
     rintro r rfl
     rw[size_mk rest,hsd,wrap_in (by omega) (by omega)]
     subst hRR
     rw[show(S.length:Int)-rest.length=((S.length-rest.length:Nat):Int) from by omega]
     refine⟨a1,n3,c1,G,rows,rfl,?_⟩
     rw[List.append_nil];exact(hO.ext (Ext.trans e2 e3)).new hb hAw
   ·cases hr:recRead w with
    |error e=>rw[hr] at h;exact absurd (Decidable.not_not.1 h) (recRead_err hr)
    |ok r=>
     rw[hr] at hF
     have hF:Fresh H2 H3 91 2 a7 n7 c7 (r.rel.lock.flatMap pinCells):=hF
     refine⟨fun hmost=> ?_,fun hmost=> ?_⟩
     ·have hmost:n3=most:=by omega
      rw[hrest,hmost,linesF_many hw hr,←hrest] at hRR
      rintro q rfl
      rw[size_mk rest,hsd,wrap_in (by omega) (by omega)]
      subst hRR
      rw[show(S.length:Int)-rest.length=((S.length-rest.length:Nat):Int) from by omega]
      refine⟨a1,n3,c1,G,rows,rfl,?_⟩
      rw[List.append_nil];exact(hO.ext (Ext.trans e2 e3)).new hb hAw
     ·have hmost:n3≠most:=by omega
      rw[hrest,linesF_more hw hr hmost] at hRR
      intro b2
      have hO3:=hO.grow RRec.mono (Ext.trans e2 e3)
      have hAw3:Away H (G.plus (newOf H1 H3)):=plus_away hAw (newOf_away.sub hN1.ext)
      have hP:Pins (G.plus (newOf H1 H3)) a7 n7 r.rel.lock:=Pins.ext' (hF.sl_new pinCells_len (by omega)) (Ext.trans (newOf_mono e2) (new_in_grow hO.sub))
      refine⟨_,hO3.row,by omega,by omega,fun a8 c8 H8 hG8 hR8=>⟨⟨t,a,n,c,n1,n2,a8,n3+1,c8,_,rows++[recVal r a7 n7 c7],xs++[r],rfl,?_,hAw3,by omega,by omega,?_⟩,?_⟩⟩
      ·refine hO3.grew hG8 ?_ (by intro q hq;simp at hq;subst hq;rfl) (AllR.one ⟨a7,n7,c7,rfl,hP⟩)
       rw[List.flatten_cons,List.flatten_nil,List.append_nil]
       exact hR8
      ·rw[hRR]
       simp only[List.append_assoc,List.singleton_append]
       congr 2
       rw[List.length_append,List.length_cons]
       omega
      ·show t.length<rest.length
       omega
 ·have hnil:rest=[]:=by
   have h:=fun e=>h (decide_eq_true e)
   rw[data_mk] at h
   exact Decidable.not_not.1 h
  subst hnil
  rw[linesF_nil] at hRR
  subst hRR
  refine⟨a1,n3,c1,G,rows,?_,?_⟩
  ·simp[hsd]
  ·rw[List.append_nil];exact hO.new hb hAw
end
open Go Go.Proofs
def dskGet:Except Int Dsk->Dsk
 | .ok d=>d
 | .error _=>dsk0
def DskOut(H:Heap)(x:Except Int Dsk)(v:Value)(H':Heap):Prop:=∃sa sn sc wa wn wc,v= .tuple #[dskArg sa sn sc wa wn wc,i64 (errOf x)]/\DskAt (newOf H H') (dskGet x) sa sn sc wa wn wc
theorem DskOut.bad{H H':Heap}{e:Int} :DskOut H (.error e) (.tuple #[.agg #[.slice none 0 0,.slice none 0 0],.int .i64 e]) H':=⟨none,0,0,none,0,0,rfl,DskAt.zero⟩
theorem newOf_both{H H1 H2 H3:Heap}(e:Ext H H1)(e':Ext H2 H3):Ext (newOf H1 H2) (newOf H H3):=Ext.trans (newOf_mono e) (newOf_right e')
theorem Fresh.le{H H':Heap}{e:TypeId}{sz:Nat}{a:O}{n c:Nat}{xs:List Value}(h:Fresh H H' e sz a n c xs):n<=c:=h.2.1
theorem Spec.dsk{P:Program}{f:FuncId}{args:List Value}{H:Heap}{x:Except Int Dsk}(h:Spec P f args H (DskOut H x)){base:Nat}{G:O->Nat->Nat->O->Nat->Nat->Int->Heap->Prop}
  (hG:∀sa sn sc wa wn wc H',Ext H H'->Vg.Next base H H'->DskAt (newOf H H') (dskGet x) sa sn sc wa wn wc->G sa sn sc wa wn wc (errOf x) H'):
  Spec P f args H fun v H'=>∃(sa:O)(sn sc:Nat)(wa:O)(wn wc:Nat)(e:Int),v= .tuple #[.agg #[.slice sa sn sc,.slice wa wn wc],.int .i64 e]/\(Vg.Next base H H'->G sa sn sc wa wn wc e H'):=
 h.mono fun v H' e ⟨sa,sn,sc,wa,wn,wc,hv,hD⟩=>⟨_,_,_,_,_,_,_,hv,fun hN=>hG _ _ _ _ _ _ H' e hN hD⟩
theorem putEnd{base:Nat}{H1 H3:Heap}{a:O}{m c:Nat}{cs:List UInt8}{g:Nat}(hR:Row base H3 5 1 a m c (cs.flatMap u8Cell))(hE:Ext H1 H3)(hA:Apart H1 a c)(hm:m<=200000)(hg:H3 g=some (boxKB 5 [Value.int IntKind.u8 10]))
  {K':O->Nat->Heap->Prop} (hK:∀a'' c'' H',Ext H1 H'->Apart H1 a'' c''->Row base H' 5 1 a'' (m+1) c'' ((cs++[10]).flatMap u8Cell)->K' a'' c'' H'):
  ∃(xs cells:List Value),Row base H3 5 1 a m c xs/\cells.length=1*1/\allOne cells=true/\(1=0∨ ∃(b o:Nat),(some ⟨g,0,none⟩:O)=some ⟨b,o,none⟩/\cellsAt H3 b o 0 cells)/\(m+1)*1<=140737488355328/\m+1<=9223372036854775807/\
   ∀(a'':O)(c'':Nat)(H':Heap),Grew base H3 H' a c a'' c'' (m+1)->Row base H' 5 1 a'' (m+1) c'' (xs++cells)->K' a'' c'' H':=by
 refine⟨_,[.int .u8 10],hR,rfl,rfl,.inr ⟨g,0,rfl,?_,trivial⟩,by omega,by omega,fun a'' c'' H' hG hR'=> ?_⟩
 ·unfold Heap.cell;rw[hg];rfl
 ·obtain⟨e1,e2⟩:=hA.grew hE hG
  refine hK a'' c'' H' e1 e2 ?_
  rw[List.flatMap_append]
  exact hR'
theorem putMid{base:Nat}{H1 Hc:Heap}{a:O}{n c:Nat}{bs text:List UInt8}{s:ByteArray}(hs:s.data.toList=text)(hz:s.size=text.length)(hR:Row base Hc 5 1 a n c (bs.flatMap u8Cell))(hE:Ext H1 Hc)(hA:Apart H1 a c)(hn:n+text.length<=200000)
  {K':O->Nat->Heap->Prop} (hK:∀a' c' H',Grew base Hc H' a c a' c' (n+s.size)->Ext H1 H'->Apart H1 a' c'->Row base H' 5 1 a' (n+s.size) c' ((bs++text).flatMap u8Cell)->K' a' c' H'):
  ∃(xs:List Value),Row base Hc 5 1 a n c xs/\n+s.size<=140737488355328/\∀(a':O)(c':Nat)(H':Heap),Grew base Hc H' a c a' c' (n+s.size)->Row base H' 5 1 a' (n+s.size) c' (xs++u8s s.data.toList)->K' a' c' H':=by
 refine⟨_,hR,by omega,fun a' c' H' hG hR'=> ?_⟩
 obtain⟨e1,e2⟩:=hA.grew hE hG
 refine hK a' c' H' hG e1 e2 ?_
 rw[List.flatMap_append,←hs,←u8s_flat s.data.toList]
 exact hR'
theorem rrec_one{H:Heap}{r:List Value}{m:Recd}(h:RRec H r m):allOne r=true:=by obtain⟨a,n,c,rfl,_⟩:=h;rfl
theorem apart_fresh{H1 H2:Heap}{e:TypeId}{sz:Nat}{a:O}{n c:Nat}{xs:List Value}(h:Fresh H1 H2 e sz a n c xs):Apart H1 a c:=fun hc x k hx ha=>by
 rcases h.2.2.2 with⟨_,h0⟩|⟨g,k',h1,h2,_⟩
 ·exact hc h0
 ·rw[ha] at h1;simp at h1;subst h1
  rw[hx] at h2;cases h2
theorem box_stays{base:Nat}{Hb Hg H' H2:Heap}{g:Nat}{kb:KB}{a a':O}{c c' nn:Nat}{e:TypeId}{sz n:Nat}{xs:List Value}(hR:Row base Hb e sz a n c xs)(hn:Hb g=none)(hg:Hg g=some kb)(hG:Grew base Hg H' a c a' c' nn):H' g=some kb:=by
 refine hG.keep g kb hg ?_
 rcases hR.2.2.2 with⟨_,h⟩|⟨g',k',h1,_,h2,_⟩
 ·exact .inl h
 ·right
  intro e
  rw[h1] at e
  simp at e
  subst e
  rw[hn] at h2;cases h2
theorem cJoin2{Hg:Heap}{g:Nat}{sa wa:O}{sn sc wn wc:Nat}{xs ys:List UInt8}(hg:Hg g=some (boxKB 33 [.slice sa sn sc,.slice wa wn wc]))(hx:Bytes Hg sa sn xs)(hy:Bytes Hg wa wn ys)(hn:xs.length+ys.length<=200000):
  Spec Tryz.prog 80 [.slice (some ⟨g,0,none⟩) 2 2] Hg fun v H'=>∃a n c,v= .slice a n c/\Fresh Hg H' 5 1 a n c ((xs++ys).flatMap u8Cell):=by
 have hS:Sl (RSl (REnc u8Cell) 1) 1 Hg (some ⟨g,0,none⟩) 2 [xs,ys]:=sl_box_rows (rs:=[[.slice sa sn sc],[.slice wa wn wc]]) hg (by simp) ⟨⟨sa,sn,sc,rfl,hx⟩,⟨wa,wn,wc,rfl,hy⟩,trivial⟩ rfl (by decide)
 have:=cConcatB (c:=2) hS (by omega) (by simp;omega)
 simpa using this
section
variable {H : Heap} (hL : Lb H)
include hL
theorem cDiskCheck{sa wa:O}{sn sc wn wc:Nat}{d:Dsk}(hd:DskAt H d sa sn sc wa wn wc):Spec Tryz.prog 142 [dskArg sa sn sc wa wn wc] H fun v _=>v=i64 (dskErr d):=by
 refine TryzvcJ Tryz.func142 (by kernel_rfl) (by kernel_rfl) _ rfl (fun base K=>vd60 sa wa sn sc wn wc base H K) fun base hb=>fun b=> ?_
 have hs:=hd.safe.len
 have hw:=hd.wait.len
 have h1:=hd.safe.le
 have h2:=hd.wait.le
 refine⟨(60000:Int)<sn∨(60000:Int)-sn<wn,⟨fun h=>⟨rfl,subH,.inl h⟩,fun h=> ?_⟩,fun h=> ?_,fun h=> ?_⟩
 ·rintro r rfl
  rw[wrap_in (by omega) (by omega)]
  exact⟨rfl,subH,⟨fun h'=>h'.resolve_left h,fun h'=> .inr h'⟩⟩
 ·unfold dskErr
  by_cases hc:60000<d.safe.length
  ·rw[if_pos hc]
  ·rw[if_neg hc,if_pos (by omega)]
 ·have e:dskErr d=(linesF 200 0 d.safe).2.2:=by
   unfold dskErr
   rw[if_neg (by omega),if_neg (by omega)]
  rw[e]
  refine⟨d.safe,hs,(hd.safe.conv (Ext.refl _)).2,?_⟩
  refine(cLines hL (s:=⟨d.safe.toArray⟩) (most:=200) (by rw[size_mk];omega) (by omega)).mono fun v H1 e1 hv=> ?_
  obtain⟨a,n,c,G,rows,hv,_⟩:=hv
  exact⟨a,n,c,_,_,hv,fun _=>rfl⟩
theorem cPut{sa wa ra:O}{sn sc wn wc rl rc:Nat}{d:Dsk}{r:Recd}(hd:DskAt H d sa sn sc wa wn wc)(hr:Pins H ra rl r.rel.lock):Spec Tryz.prog 243 [dskArg sa sn sc wa wn wc,recArg r ra rl rc] H (DskOut H (dskPut d r)):=by
 refine TryzvcJ Tryz.func243 (by kernel_rfl) (by kernel_rfl) _ rfl (fun base K=>vd32 sa wa sn sc wn wc r.kind r.agent r.try_ r.num r.rel.id r.good ra rl rc base H K) fun base hb=>fun b b' b''=> ?_
 refine(cDiskCheck hL hd).int1 fun H1 e1 hN1=>⟨fun h=> ?_,fun h=> ?_⟩
 ·rw[dskPut,if_neg h];exact DskOut.bad
 have h:=Decidable.not_not.1 h
 obtain⟨z1,z2,z3⟩:=dskErr_zero h
 have hs:=hd.safe.len
 have hw:=hd.wait.len
 refine(cNotePrint (hL.ext e1) (r:=r) (c:=rc) (hr.ext' e1)).strE fun H2 e2 hN2=>⟨fun h2=> ?_,fun h2=> ?_⟩
 ·rw[dskPut,if_pos h,if_neg h2];exact DskOut.bad
 have h2:=Decidable.not_not.1 h2
 rw[if_pos h2]
 have hlt:=recText_len h2
 rintro q rfl
 rw[size_mk,wrap_in (by omega) (by omega)]
 rintro q rfl
 rw[wrap_in (by omega) (by omega)]
 rintro q rfl
 rw[wrap_in (by omega) (by omega)]
 refine⟨fun h3=> ?_,fun h3=> ?_⟩
 ·rw[dskPut,if_pos h,if_pos h2,if_pos (by omega)];exact DskOut.bad
 have hout:dskPut d r= .ok ⟨d.safe,d.wait++(recText r++[10])⟩:=by rw[dskPut,if_pos h,if_pos h2,if_neg (by omega)]
 rw[hout]
 have e12:=Ext.trans e1 e2
 have fin:∀ {Ha Hb Hf:Heap} {a1:O} {n1 c1:Nat} {a2:O} {n2 c2:Nat},Ext H Ha->Fresh Ha Hb 5 1 a1 n1 c1 (d.safe.flatMap u8Cell)->Ext Hb Hf->Row base Hf 5 1 a2 n2 c2 ((d.wait++recText r++[10]).flatMap u8Cell)->
   DskOut H (.ok ⟨d.safe,d.wait++(recText r++[10])⟩) (.tuple #[.agg #[.slice a1 n1 c1,.slice a2 n2 c2],.int .i64 0]) Hf:=fun{Ha Hb Hf a1 n1 c1 a2 n2 c2} eA hF eF hR=>by
  have hR':=hR.fresh hb
  rw[List.append_assoc] at hR'
  exact⟨_,_,_,_,_,_,rfl,hF.bytes.ext' (newOf_both eA eF),hR'.bytes,hF.le,hR'.le⟩
 have hz:∀(l:List UInt8),(⟨l.toArray⟩:ByteArray).size=l.length:=size_mk
 have hd2:=hd.ext e12
 refine⟨?_,fun g Hg hNg hgn hg=> ?_⟩
 ·refine(cCloneB hd2.safe (by omega)).mono fun v H3 e3 hv=> ?_
  obtain⟨a1,n1,c1,rfl,hF1⟩:=hv
  refine⟨a1,n1,c1,rfl,fun hN3=>⟨?_,fun g Hg hNg hgn hg=> ?_⟩⟩
  ·refine(cCloneB (hd2.wait.ext' e3) (by omega)).mono fun v H4 e4 hv=> ?_
   obtain⟨a2,n2,c2,rfl,hF2⟩:=hv
   have hn2:n2=d.wait.length:=by have:=hF2.1;rw[flat_len u8Cell_len] at this;omega
   refine⟨a2,n2,c2,rfl,fun hN4=>⟨?_,fun g Hg hNg hgn hg=> ?_⟩⟩
   ·refine putMid (text:=recText r) (s:=⟨(recText r).toArray⟩) rfl rfl (hF2.row hN4) e4 (apart_fresh hF2) (by omega) fun a' c' H5 hG5 e5 hA5 hR5=>fun g H6 hN6 hgn hg=> ?_
    refine putEnd (hR5.ext hN6.ext) (Ext.trans e5 hN6.ext) hA5 (by rw[hz];omega) hg fun a'' c'' H7 e7 hA7 hR7=> ?_
    exact fin e12 hF1 e7 hR7
   ·refine putMid (text:=recText r) (s:=⟨(recText r).toArray⟩) rfl rfl ((hF2.row hN4).ext hNg.ext) (Ext.trans e4 hNg.ext) (apart_fresh hF2) (by omega) fun a' c' H5 hG5 e5 hA5 hR5=> ?_
    refine putEnd hR5 e5 hA5 (by rw[hz];omega) (box_stays (H2:=H4) (hF2.row hN4) hgn hg hG5) fun a'' c'' H7 e7 hA7 hR7=> ?_
    exact fin e12 hF1 e7 hR7
  ·refine(cCloneB ((hd2.wait.ext' e3).ext' hNg.ext) (by omega)).mono fun v H4 e4 hv=> ?_
   obtain⟨a2,n2,c2,rfl,hF2⟩:=hv
   have hn2:n2=d.wait.length:=by have:=hF2.1;rw[flat_len u8Cell_len] at this;omega
   refine⟨a2,n2,c2,rfl,fun hN4=> ?_⟩
   refine putMid (text:=recText r) (s:=⟨(recText r).toArray⟩) rfl rfl (hF2.row hN4) e4 (apart_fresh hF2) (by omega) fun a' c' H5 hG5 e5 hA5 hR5=> ?_
   refine putEnd hR5 e5 hA5 (by rw[hz];omega) (e5 _ _ hg) fun a'' c'' H7 e7 hA7 hR7=> ?_
   exact fin e12 hF1 (Ext.trans hNg.ext e7) hR7
 ·refine(cCloneB (hd2.safe.ext' hNg.ext) (by omega)).mono fun v H3 e3 hv=> ?_
  obtain⟨a1,n1,c1,rfl,hF1⟩:=hv
  refine⟨a1,n1,c1,rfl,fun hN3=> ?_⟩
  refine(cCloneB ((hd2.wait.ext' hNg.ext).ext' e3) (by omega)).mono fun v H4 e4 hv=> ?_
  obtain⟨a2,n2,c2,rfl,hF2⟩:=hv
  have hn2:n2=d.wait.length:=by have:=hF2.1;rw[flat_len u8Cell_len] at this;omega
  refine⟨a2,n2,c2,rfl,fun hN4=> ?_⟩
  refine putMid (text:=recText r) (s:=⟨(recText r).toArray⟩) rfl rfl (hF2.row hN4) e4 (apart_fresh hF2) (by omega) fun a' c' H5 hG5 e5 hA5 hR5=> ?_
  refine putEnd hR5 e5 hA5 (by rw[hz];omega) (e5 _ _ (e3 _ _ hg)) fun a'' c'' H7 e7 hA7 hR7=> ?_
  exact fin (Ext.trans e12 hNg.ext) hF1 e7 hR7
theorem cSync{sa wa:O}{sn sc wn wc:Nat}{d:Dsk}(hd:DskAt H d sa sn sc wa wn wc):Spec Tryz.prog 244 [dskArg sa sn sc wa wn wc] H (DskOut H (dskSync d)):=by
 refine TryzvcJ Tryz.func244 (by kernel_rfl) (by kernel_rfl) _ rfl (fun base K=>vd33 sa wa sn sc wn wc base H K) fun base hb=>fun b b'=> ?_
 refine(cDiskCheck hL hd).int1 fun H1 e1 hN1=>⟨fun h=> ?_,fun h=> ?_⟩
 ·rw[dskSync,if_neg h];exact DskOut.bad
 have h:=Decidable.not_not.1 h
 obtain⟨z1,z2,z3⟩:=dskErr_zero h
 intro g H2 hN2 hgn hg
 have hd2:=hd.ext (Ext.trans e1 hN2.ext)
 refine(cJoin2 hg hd2.safe hd2.wait (by omega)).mono fun v H3 e3 hv=> ?_
 obtain⟨a,n,c,rfl,hF⟩:=hv
 refine⟨a,n,c,rfl,fun hN3=>fun b3=> ?_⟩
 have eH:Ext H H3:=Ext.trans (Ext.trans e1 hN2.ext) e3
 have hD:DskAt (newOf H H3) ⟨d.safe++d.wait,[]⟩ a n c none 0 0:=⟨hF.bytes.ext' (newOf_mono (Ext.trans e1 hN2.ext)),Sl.nil,hF.le,by omega⟩
 refine(cDiskCheck (hL.ext eH) (hD.ext newOf_ext)).int1 fun H4 e4 hN4=>⟨fun h4=> ?_,fun h4=> ?_⟩
 ·rw[dskSync,if_pos h,if_neg h4];exact DskOut.bad
 ·have h4:=Decidable.not_not.1 h4
  rw[dskSync,if_pos h,if_pos h4]
  exact⟨_,_,_,_,_,_,rfl,hD.ext (newOf_right e4)⟩
theorem cRecover{sa wa:O}{sn sc wn wc:Nat}{d:Dsk}(hd:DskAt H d sa sn sc wa wn wc):Spec Tryz.prog 64 [dskArg sa sn sc wa wn wc] H fun v H'=>∃a1 n1 c1 a2 n2 c2 a3 n3 c3 G rows,v= .tuple #[dskArg a1 n1 c1 a2 n2 c2,.slice a3 n3 c3,i64 (dskErr d)]/\
  DskAt (newOf H H') (if dskErr d=0 then dskBack d else dsk0) a1 n1 c1 a2 n2 c2/\NewSl RRec 7 126 H G H' a3 n3 c3 rows (if dskErr d=0 then dskRecs d else []):=by
 refine TryzvcJ Tryz.func64 (by kernel_rfl) (by kernel_rfl) _ rfl (fun base K=>vd36 sa wa sn sc wn wc base H K) fun base hb=>fun b b'=> ?_
 refine(cDiskCheck hL hd).int1 fun H1 e1 hN1=>⟨fun h=> ?_,fun h=> ?_⟩
 ·rw[if_neg h,if_neg h]
  exact⟨none,0,0,none,0,0,none,0,0,fun _=>none,[],rfl,DskAt.zero,Fresh.zero,by simp,trivial,fun _ _ h=>(by cases h),fun h=>absurd rfl h,fun _ _ h=>(by cases h)⟩
 have h:=Decidable.not_not.1 h
 rw[if_pos h,if_pos h,h]
 obtain⟨z1,z2,z3⟩:=dskErr_zero h
 have hs:=hd.safe.len
 have hw:=hd.wait.len
 have hle:=hd.wle
 have hd1:=hd.ext e1
 refine⟨d.safe,hs,(hd1.safe.conv (Ext.refl _)).2,?_⟩
 refine(cLines (hL.ext e1) (s:=⟨d.safe.toArray⟩) (most:=200) (by rw[size_mk];omega) (by omega)).mono fun v H2 e2 hv=> ?_
 obtain⟨a3,n3,c3,G3,rows3,rfl,hS3⟩:=hv
 rw[data_mk] at hS3
 refine⟨a3,n3,c3,_,_,rfl,fun hN2=> ?_⟩
 obtain⟨i1,i2,i3,i4,i5⟩:=linesF_ok (most:=200) d.safe.length (s:=d.safe) (k:=0) (Nat.le_refl _) (by omega)
 have hO3:=hS3.own hN2
 obtain⟨hr3,hx3⟩:=hO3.rlen (by omega)
 have e12:=Ext.trans e1 e2
 have hd2:=hd.ext e12
 refine⟨d.wait,hw,(hd2.wait.conv (Ext.refl _)).2,?_⟩
 rintro r rfl
 rw[wrap_in (by omega) (by omega)]
 have hm:(200:Int)-n3=((200-n3:Nat):Int):=by omega
 rw[hm]
 refine(cLines (hL.ext e12) (s:=⟨d.wait.toArray⟩) (most:=200-n3) (by rw[size_mk];omega) (by omega)).mono fun v H3 e3 hv=> ?_
 obtain⟨a4,n4,c4,G4,rows4,rfl,hS4⟩:=hv
 rw[data_mk] at hS4⊢
 have hmore:linesF (200-n3) 0 d.wait=dskMore d:=by unfold dskMore;rw[←hx3]
 rw[hmore] at hS4⊢
 refine⟨a4,n4,c4,_,_,rfl,fun hN3=> ?_⟩
 have hO4:=hS4.own hN3
 obtain⟨hr4,hx4⟩:=hO4.rlen (by omega)
 have j:=linesF_ok (most:=200-(linesF 200 0 d.safe).1.length) d.wait.length (s:=d.wait) (k:=0) (Nat.le_refl _) (by omega)
 have j:(dskMore d).1.length<=200-(linesF 200 0 d.safe).1.length/\(dskMore d).2.1<=d.wait.length:=by
  obtain⟨_,j2,j3,_⟩:=j
  exact⟨by unfold dskMore;omega,j3⟩
 refine⟨by omega,by omega,fun g H4 hN4 hgn hg=> ?_⟩
 have e14:Ext H H4:=Ext.trans (Ext.trans e12 e3) hN4.ext
 have hd4:=hd.ext e14
 have hsub:Bytes H4 wa (dskMore d).2.1 (d.wait.take (dskMore d).2.1):=by
  have:=hd4.wait.sub (l:=0) (m:=(dskMore d).2.1) (a':=wa) (by omega) (fun _=>by cases wa<;>simp[Addr.add])
  rwa[List.drop_zero] at this
 rw[Int.toNat_natCast] at hg
 refine(cJoin2 hg hd4.safe hsub (by rw[List.length_take];omega)).mono fun v H5 e5 hv=> ?_
 obtain⟨a5,n5,c5,rfl,hF5⟩:=hv
 refine⟨a5,n5,c5,rfl,fun hN5=> ?_⟩
 have hO3':=(hO3.grow RRec.mono e3)
 have e35:Ext H3 H5:=Ext.trans hN4.ext e5
 have hA4:AllR RRec (G3.plus (newOf H2 H3)) rows4 (dskMore d).1:=(hS4.all_new RRec.mono).mono RRec.mono (new_in_grow hO3.sub)
 have hAw:Away H (G3.plus (newOf H2 H3)):=plus_away (hS3.away.sub e1) (newOf_away.sub e12)
 have hR4:=(hO4.row.ext e35)
 obtain⟨bl4,hc4⟩:rows4.flatten.length=n4*7/\(n4=0∨ ∃(b o:Nat),a4=some ⟨b,o,none⟩/\cellsAt H5 b o 0 rows4.flatten):=by
  refine⟨hR4.1,?_⟩
  rcases hR4.2.2.2 with⟨h0,_⟩|⟨g',k,h1,h2,h3,h4,h5,h6,h7⟩
  ·exact .inl h0
  ·exact .inr ⟨g',0,h1,cellsAt_of _ 0 fun j v hj=>by unfold Heap.cell;rw[h3];simpa using h7 j v hj⟩
 have hO5:=hO3'.ext e35
 refine⟨_,_,hO5.row,bl4,allOne_rows rrec_one hS4.all,hc4,by omega,by omega,fun a6 c6 H6 hG6 hR6=> ?_⟩
 have hO6:=hO5.grew hG6 hR6 hS4.wid hA4
 refine⟨a5,n5,c5,none,0,0,a6,n3+n4,c6,_,_,rfl,⟨hF5.bytes.ext' ?_,Sl.nil,hF5.le,by omega⟩,hO6.new hb hAw⟩
 intro x k hx
 have h1:=newOf_away x k hx
 have h2:=newOf_ext x k hx
 have hxa:c3=0∨a3≠some ⟨x,0,none⟩:=by
  by_cases hc:c3=0
  ·exact .inl hc
  ·right
   intro e
   obtain⟨g',k',q1,q2⟩:=hO3.block hc
   rw[e] at q1
   simp at q1
   subst q1
   rw[(Ext.trans e3 hN4.ext) _ _ q2] at h1;cases h1
 have hHx:H x=none:=by
  cases hq:H x with
  |none=>rfl
  |some k'=>rw[e14 x k' hq] at h1;cases h1
 unfold newOf
 rw[hHx]
 exact hG6.keep x k h2 hxa
end
theorem cDiskSame{H:Heap}{sa wa ta ua:O}{sn sc wn wc tn tc un uc:Nat}{d d':Dsk}(h:DskAt H d sa sn sc wa wn wc)(h':DskAt H d' ta tn tc ua un uc):Spec Tryz.prog 37 [dskArg sa sn sc wa wn wc,dskArg ta tn tc ua un uc] H fun v _=>v= .bool (decide (d=d')):=by
 refine TryzvcJ Tryz.func37 (by kernel_rfl) (by kernel_rfl) _ rfl (fun base K=>vd39 sa wa ta ua sn sc wn wc tn tc un uc base H K) fun base hb=>fun b b'=> ?_
 have hd:d=d'↔d.safe=d'.safe/\d.wait=d'.wait:=by cases d;cases d';simp
 refine⟨d=d',(cEqB h.safe h'.safe).bool1 fun H1 e1 _=>⟨fun h1=>(cEqB (h.wait.ext' e1) (h'.wait.ext' e1)).bool1 fun H2 e2 _=>⟨rfl,Ext.trans e1 e2,?_⟩,fun h1=>⟨rfl,e1,?_⟩⟩,?_⟩
 ·rw[hd];simp at h1⊢;simp[h1]
 ·rw[hd];simp at h1;simp[h1]
 ·show Value.bool _=Value.bool _
  rw[decC]
open Go Go.Proofs
theorem TryzvcO{f:FuncId}{fn:Func}(hf: Tryz.prog.funcs[f]?=some fn)(hok:okFn fn=true){own:List Bx}{args:List SV}(hargs:Nat.ble args.length fn.ntmps=true)(hwf:∀s∈args,s.wf own.length){H:Heap}(Q:Value->List (List Value)->Heap->Prop)
  {F:Nat->(Value->List (List Value)->Heap->Prop)->Prop} (hv:∀base K,funV ⟨Tryz.prog,fn.ntmps,TryzMutsJ,base,H⟩ (bodyOf fn) fn.results.toList args own K=F base K)
  (h:∀base,(∀b k,H b=some k->b<base)->F base Q):SpecO Tryz.prog f (args.map (SV.val own)) own H Q:=
 specO_of (muts:= TryzMutsJ) (Tryzsum true) hf (body_some hok) rfl Tryzmixed (ops_ok hok) (Nat.le_of_ble_eq_true hargs) hwf fun base hb _=>by
  rw[hv base]
  exact h base hb
open Go Go.Proofs
open Go Go.Proofs
open Go.ChangeShapes Go.WideShapes Go.ChangeAt Go.RowKit
theorem kept_of_below{w w':World}(h:BelowX [] w w'):w.keptBut w' (fun _=>False):=by
 refine⟨h.os,h.output,fun i hi=> ?_⟩
 rw[h.block i hi (by simp)]
 split
 ·simp_all
 ·rename_i e1 e2;rw[e1] at e2;cases e2;exact .inr ⟨rfl,rfl⟩
 ·rfl
theorem post_mine{HH:Type}{enc:TypeId×Value->HH}{P:Program}{f:Func}{s:ChangeSpec}{apart fresh handsOn:Bool}{W W':World}{args:Array Value}{v:Value}{ds gs:List (DataW HH)}{before pa pv:List MemPlace}
  (hW:DataW.Whole enc P f.params.toList s.vars apart W args.toList ds gs before)
  (hres:∀(b:Nat)(sp:Nat->Bool)(hd:Bool),DataW.TrodAll enc P W' b sp hd f.resultTypes.toList (v.resultList f.resultTypes.size) (s.fn HH (ds++gs)).results [])
  (hargs:DataW.TrodAll enc P W' 0 (fun b=>decide (b<W.heap.size)) true f.params.toList args.toList (s.fn HH (ds++gs)).args pa)
  (hvars:DataW.TrodVars enc P W' (fun b=>decide (b<W.heap.size)) s.vars (s.fn HH (ds++gs)).vars pv)
  (hk:BelowX [] W W'):s.post enc P f apart fresh handsOn false W args v W':=
 ⟨ds,gs,before,[],pa,pv,hW,hres _ _ _,hargs,hvars,World.keptBut_mono (fun _ hp=>hp.elim) (kept_of_below hk),fun h=>by cases h⟩
theorem Spec.calls{P:Program}{f:FuncId}{args:List Value}{H:Heap}{r:Value}(h:Spec P f args H fun v _=>v=r){w:World}(hs:Sees H w):Calls P f args.toArray w fun e w'=>e= .returned r/\BelowX [] w w':=
 Calls.mono (h w hs ⟨by simp,by simp,by simp⟩) fun e w' he=>by
  obtain⟨v,css,H',h1,h2,h3,h4,h5,h6,h7⟩:=he
  exact⟨by rw[h1,h7],by simpa using h3⟩
theorem Tryzown:ownKnob Tryz.prog.godebug=none:=by kernel_rfl
end Go.Vg
namespace Go.Proofs.YtgaegoefbekndaaGreatDoor
open Go Go.Proofs Go.Vg
theorem mayEnterT:Program.mayEnter Tryz.pinned.checked.prog=true:=by kernel_rfl
theorem liftsFinalT:Program.liftsFinal Tryz.pinned.checked.prog=false:=by kernel_rfl
theorem makeT:Program.make Tryz.pinned.checked.prog=some .cut:=by kernel_rfl
end Go.Proofs.YtgaegoefbekndaaGreatDoor
namespace Go.Vg
open Go Go.Proofs
open Go.ChangeShapes Go.WideShapes Go.ChangeAt Go.RowKit
def heapOf(w:World):Heap:=fun b=>
 match w.heap[b]? with
 |some (.cells cur ty fr)=>some ⟨ty,cur.size,decide (fr=(0,0)),fun j=>cur[j]?⟩
 |_=>none
theorem sees_heapOf(w:World):Sees (heapOf w) w:=by
 intro b k h
 unfold heapOf at h
 split at h
 ·rename_i cur ty fr hw
  obtain rfl:=Option.some.inj h
  exact⟨cur,fr,hw,rfl,fun h=>by simpa using h,fun j v hj=>hj⟩
 ·cases h
theorem heapOf_cell{w:World}{b o:Nat}{s:Option Nat}{v:Value}(h:w.cell? ⟨b,o,s⟩=some v):s=none/\(heapOf w).cell b o=some v:=by
 unfold World.cell? at h
 unfold Heap.cell heapOf
 split at h
 ·rename_i c t f hw
  split at h
  ·cases h
  ·rename_i hs
   dsimp only at hw
   rw[hw]
   exact⟨by cases s with|none=>rfl|some x=>simp at hs,by simpa using h⟩
 ·cases h
theorem cells_get{w:World}{base:Nat}{a:Addr}{n:Nat}{cs:List Value}(h:w.cells? base a n=some cs):cs.length=n/\∀(j:Nat) v,cs[j]?=some v->w.cell? (a.add j)=some v:=by
 obtain⟨h1,h2⟩:cs.length=n/\∀(j:Nat) v,cs[j]?=some v->w.cell? (a.add j)=some v:=by
  unfold World.cells? at h
  split at h
  ·have hl:=mapM_some_length h
   refine⟨by simpa using hl,fun j v hj=> ?_⟩
   have hjn:j<n:=by have:=(List.getElem?_eq_some_iff.1 hj).1;simp at hl;omega
   have:=mapM_some_get h j j (by simp[hjn])
   rw[this];exact hj
  ·cases h
 exact⟨h1,h2⟩
theorem list_of_all{α:Type}{Q:Nat->α->Prop} :∀(n:Nat),(∀i,i<n->∃x,Q i x)->∃xs:List α,xs.length=n/\∀(i:Nat) x,xs[i]?=some x->Q i x
 |0,_=>⟨[],rfl,by simp⟩
 |n+1,h=>by
  obtain⟨xs,hl,hq⟩:=list_of_all n fun i hi=>h i (by omega)
  obtain⟨x,hx⟩:=h n (by omega)
  refine⟨xs++[x],by simp[hl],fun i y hy=> ?_⟩
  by_cases hi:i<n
  ·rw[List.getElem?_append_left (by omega)] at hy;exact hq i y hy
  ·rw[List.getElem?_append_right (by omega)] at hy
   have:i=n:=by
    have:=(List.getElem?_eq_some_iff.1 hy).1
    simp at this;omega
   subst this
   rw[hl,Nat.sub_self] at hy
   simp at hy;subst hy;exact hx
section
variable {HH : Type} {enc : TypeId × Value->HH} {P : Program} {w : World} {base : Nat} {spare : Nat->Bool} {held : Bool}
def ReadsAs(enc:TypeId×Value->HH)(P:Program)(w:World)(base:Nat)(spare:Nat->Bool)(held:Bool)(t:TypeId){α:Type}(R:Rep α):Prop:=
 ∀(fuel:Nat)(cs:List Value)(x:DataW HH×List MemPlace),DataW.trod enc P w base spare held fuel t cs=some x->∃y:α,R (heapOf w) cs y
theorem reads_int{t:TypeId}(ht:P.underlying t=some (.int .i64)):ReadsAs enc P w base spare held t RInt:=fun _ _ _ h=>by
 obtain⟨n,rfl,_⟩:=DataW.trod_int ht h
 exact⟨n,rfl⟩
theorem reads_slice{t e:TypeId}{sz:Nat}{α:Type}{R:Rep α}(ht:P.underlying t=some (.slice e))(hc:P.cellsOf e=sz)(h0:0<sz)(hR:ReadsAs enc P w base spare held e R)(hlen:∀ {H:Heap} {r:List Value} {x:α},R H r x->r.length=sz):
  ReadsAs enc P w base spare held t (RSl R sz):=fun fuel cs x h=>by
 rcases DataW.trod_slice ht h with⟨rfl,rfl⟩|⟨a,len,cap,elems,rest,n,rfl,rfl,rfl,hb,hl,hm,hlen',hel,_,_⟩
 ·exact⟨[],none,0,0,rfl,Sl.nil⟩
 ·have hmax:maxLen=9223372036854775807:=rfl
  have each:∀i,i<len->∃(y:α),∃r,R (heapOf w) r y/\∀(j:Nat) v,r[j]?=some v->w.cell? ((a.add (i*sz)).add j)=some v:=by
   intro i hi
   have:=hel i hi
   rw[List.getElem?_eq_getElem (by omega),Option.bind_eq_some_iff] at this
   obtain⟨cs',hcs,hd⟩:=this
   obtain⟨y,hy⟩:=hR _ _ _ hd
   rw[hc] at hcs
   exact⟨y,cs',hy,fun j v hj=>(cells_get hcs).2 j v hj⟩
  obtain⟨xs,hxl,hxs⟩:=list_of_all len each
  refine⟨xs,some a,len,cap,rfl,hxl,by omega,fun hpos=> ?_⟩
  obtain⟨b,o,s⟩:=a
  have hs:s=none:=by
   obtain⟨y,r,hr,hv⟩:=each 0 hpos
   have hrl:=hlen hr
   have:=hv 0 (r[0]'(by omega)) (List.getElem?_eq_getElem (by omega))
   rw[Nat.zero_mul] at this
   exact(heapOf_cell (by simpa[Addr.add] using this)).1
  subst hs
  refine⟨b,o,rfl,fun i y hy=> ?_⟩
  obtain⟨r,hr,hv⟩:=hxs i y hy
  refine⟨r,hr,fun j v hj=> ?_⟩
  have h1:=hv j v hj
  have e1:((⟨b,o,none⟩:Addr).add (i*sz)).add j=⟨b,o+i*sz+j,none⟩:=by
   unfold Addr.add
   split<;>split<;>simp_all
  rw[e1] at h1
  exact(heapOf_cell h1).2
theorem RInt.len{H:Heap}{r:List Value}{x:Int}(h:RInt H r x):r.length=1:=by cases h;rfl
theorem RSl.len{α:Type}{R:Rep α}{sz:Nat}{H:Heap}{r:List Value}{x:List α}(h:RSl R sz H r x):r.length=1:=by obtain⟨a,n,c,rfl,_⟩:=h;rfl
theorem arg_struct{r:Reach}{b0:Nat}{t:TypeId}{fs:Array Field}{α:Type}{R:Rep α}{v:Value}{d:DataW HH}{ps:List MemPlace}(ht:P.underlying t=some (.struct fs))(hval:Value.okWide P w r b0 t v)
  (hR:ReadsAs enc P w base spare held t R) (hd:DataW.Trod enc P w base spare held t v d ps):∃(cs:List Value)(x:α),v= .agg cs.toArray/\R (heapOf w) cs x:=by
 obtain⟨cs,rfl,_⟩:=okWide_struct ht hval
 obtain⟨fuel,hf⟩:=hd
 obtain⟨x,hx⟩:=hR _ _ _ hf
 exact⟨cs.toList,x,by simp,by simpa[Value.cells] using hx⟩
theorem sameAt_of_below{w':World}(h:BelowX [] w w'){p:MemPlace}(hp:p.block<w.heap.size):w.sameAt w' p:=by
 cases p with
 |cell b o=>
  have:=h.block b hp (by simp)
  show w'.cell? ⟨b,o,none⟩=w.cell? ⟨b,o,none⟩
  unfold World.cell?
  dsimp only
  rw[this]
 |map b=>exact h.block b hp (by simp)
theorem trodAll_stays{w':World}(K:Kids P (· <P.types.size))(hsz:∀ {t e:TypeId},t<P.types.size->P.underlying t=some (.slice e)->0<P.cellsOf e)(hb:BelowX [] w w'):
  ∀ {ts:List TypeId} {vs:List Value} {ds:List (DataW HH)} {ps:List MemPlace},(∀t∈ts,t<P.types.size)->DataW.TrodAll enc P w 0 (fun _=>true) true ts vs ds ps->
   DataW.TrodAll enc P w' 0 (fun b=>decide (b<w.heap.size)) true ts vs ds ps
 | [],[],[],ps,_,h=>h
 |t::ts,v::vs,d::ds,ps,ht,h=>by
  obtain⟨p,q,⟨fuel,h1⟩,h2,rfl⟩:=h
  refine⟨p,q,⟨fuel,?_⟩,trodAll_stays K hsz hb (fun x hx=>ht x (List.mem_cons_of_mem _ hx)) h2,rfl⟩
  have hlt:=DataW.trod_lt fuel t _ _ h1
  exact DataW.trod_stays K hsz (fun h=>by cases h) (ht t List.mem_cons_self) h1 (fun p hp=>sameAt_of_below hb (hlt p hp)) (fun p hp=>by simpa using hlt p hp)
 | [],_::_,_,_,_,h=>h.elim
 | [],[],_::_,_,_,h=>h.elim
 |_::_,[],_,_,_,h=>h.elim
 |_::_,_::_,[],_,_,h=>h.elim
end
def sizedSlices(P:Program):Bool:=(List.range P.types.size).all fun t=>match P.underlying t with|some (.slice e)=>decide (0<P.cellsOf e)|_=>true
theorem sized_of{P:Program}(h:sizedSlices P=true){t e:TypeId}(ht:t<P.types.size)(hu:P.underlying t=some (.slice e)):0<P.cellsOf e:=by
 have:=List.all_eq_true.1 h t (List.mem_range.2 ht)
 simpa[hu] using this
theorem Tryzkids:Kids Tryz.prog (· < Tryz.prog.types.size):=kids_rows (by kernel_rfl) (by kernel_rfl)
theorem Tryzsized:sizedSlices Tryz.prog=true:=by kernel_rfl
theorem TryztrodAll{HH:Type}{enc:TypeId×Value->HH}{w w':World}(hb:BelowX [] w w'){ts:List TypeId}{vs:List Value}{ds:List (DataW HH)}{ps:List MemPlace}(ht:∀t∈ts,t< Tryz.prog.types.size)(h:DataW.TrodAll enc Tryz.prog w 0 (fun _=>true) true ts vs ds ps):
  DataW.TrodAll enc Tryz.prog w' 0 (fun b=>decide (b<w.heap.size)) true ts vs ds ps:=trodAll_stays Tryzkids (sized_of Tryzsized) hb ht h
open Go Go.Proofs
open Go.ChangeShapes Go.WideShapes Go.ChangeAt Go.RowKit
section
variable {HH : Type} {enc : TypeId × Value->HH} {w : World} {base : Nat} {spare : Nat->Bool} {held : Bool}
theorem fieldAt{P:Program}{t:TypeId}{fs:Array Field}{fuel:Nat}{cs:List Value}{x:DataW HH×List MemPlace}(ht:P.underlying t=some (.struct fs))(h:DataW.trod enc P w base spare held fuel t cs=some x){i:Nat}{f:Field}(hf:fs[i]?=some f):
  ∃n y,DataW.trod enc P w base spare held n f.type ((cs.drop f.offset).take (P.cellsOf f.type))=some y:=by
 obtain⟨xs,n,rfl,rfl,_,hl,hx⟩:=DataW.trod_struct ht h
 have hi:i<fs.size:=(Array.getElem?_eq_some_iff.1 hf).1
 exact⟨n,xs[i]'(by omega),by rw[hx i f hf,List.getElem?_eq_getElem (by omega)]⟩
theorem structLen{P:Program}{t:TypeId}{fs:Array Field}{fuel:Nat}{cs:List Value}{x:DataW HH×List MemPlace}(ht:P.underlying t=some (.struct fs))(h:DataW.trod enc P w base spare held fuel t cs=some x):cs.length=P.cellsOf t:=by
 obtain⟨xs,n,rfl,rfl,hl,_⟩:=DataW.trod_struct ht h
 exact hl
theorem fieldInt{P:Program}{t:TypeId}{fs:Array Field}{fuel:Nat}{cs:List Value}{x:DataW HH×List MemPlace}(ht:P.underlying t=some (.struct fs))(h:DataW.trod enc P w base spare held fuel t cs=some x){i:Nat}{f:Field}(hf:fs[i]?=some f){k:Nat}
  (hu:P.underlying f.type=some (.int .i64)) (hc:P.cellsOf f.type=1) (ho:f.offset=k):∃n:Int,cs[k]?=some (i64 n)/\ -9223372036854775808<=n/\n<=9223372036854775807:=by
 obtain⟨m,y,hy⟩:=fieldAt ht h hf
 obtain⟨n,h1,_,hw⟩:=DataW.trod_int hu hy
 rw[hc,ho] at h1
 refine⟨n,?_,bounds_i64 hw⟩
 have:((cs.drop k).take 1)[0]?=some (i64 n):=by rw[h1];rfl
 simpa using this
theorem fieldBool{P:Program}{t:TypeId}{fs:Array Field}{fuel:Nat}{cs:List Value}{x:DataW HH×List MemPlace}(ht:P.underlying t=some (.struct fs))(h:DataW.trod enc P w base spare held fuel t cs=some x){i:Nat}{f:Field}(hf:fs[i]?=some f){k:Nat}
  (hu:P.underlying f.type=some .bool) (hc:P.cellsOf f.type=1) (ho:f.offset=k):∃n:Bool,cs[k]?=some (.bool n):=by
 obtain⟨m,y,hy⟩:=fieldAt ht h hf
 obtain⟨n,h1,_⟩:=DataW.trod_bool hu hy
 rw[hc,ho] at h1
 refine⟨n,?_⟩
 have:((cs.drop k).take 1)[0]?=some (.bool n):=by rw[h1];rfl
 simpa using this
theorem cells2{cs:List Value}(h:cs.length=2){x y:Value}(h0:cs[0]?=some x)(h1:cs[1]?=some y):cs=[x,y]:=by
 match cs,h with
 | [a,b],_=>simp at h0 h1;rw[h0,h1]
theorem cells4{cs:List Value}(h:cs.length=4){x y z u:Value}(h0:cs[0]?=some x)(h1:cs[1]?=some y)(h2:cs[2]?=some z)(h3:cs[3]?=some u):cs=[x,y,z,u]:=by
 match cs,h with
 | [a,b,c,d],_=>simp at h0 h1 h2 h3;rw[h0,h1,h2,h3]
theorem REnc.len{α:Type}{e:α->List Value}{sz:Nat}(hs:∀x,(e x).length=sz){H:Heap}{r:List Value}{x:α}(h:REnc e H r x):r.length=sz:=by cases h;exact hs x
theorem reads_pin:ReadsAs enc Tryz.prog w base spare held 91 RPin:=fun fuel cs x h=>by
 have c3: Tryz.prog.cellsOf 3=1:=by kernel_rfl
 have c48: Tryz.prog.cellsOf 91=2:=by kernel_rfl
 have hl:=structLen Tryz.underlying91 h
 rw[c48] at hl
 obtain⟨a,ha,_⟩:=fieldInt Tryz.underlying91 h (i:=0) rfl Tryz.underlying3 c3 rfl
 obtain⟨b,hb,_⟩:=fieldInt Tryz.underlying91 h (i:=1) rfl Tryz.underlying3 c3 rfl
 exact⟨⟨a,b⟩,cells2 hl ha hb⟩
theorem reads_rule:ReadsAs enc Tryz.prog w base spare held 152 RRule:=fun fuel cs x h=>by
 have c3: Tryz.prog.cellsOf 3=1:=by kernel_rfl
 have c54: Tryz.prog.cellsOf 152=4:=by kernel_rfl
 have hl:=structLen Tryz.underlying152 h
 rw[c54] at hl
 obtain⟨a,ha,_⟩:=fieldInt Tryz.underlying152 h (i:=0) rfl Tryz.underlying3 c3 rfl
 obtain⟨b,hb,_⟩:=fieldInt Tryz.underlying152 h (i:=1) rfl Tryz.underlying3 c3 rfl
 obtain⟨c,hc,_⟩:=fieldInt Tryz.underlying152 h (i:=2) rfl Tryz.underlying3 c3 rfl
 obtain⟨d,hd,_⟩:=fieldInt Tryz.underlying152 h (i:=3) rfl Tryz.underlying3 c3 rfl
 exact⟨⟨a,b,c,d⟩,cells4 hl ha hb hc hd⟩
theorem reads_pins:ReadsAs enc Tryz.prog w base spare held 22 (RSl RPin 2):=reads_slice Tryz.underlying22 (by kernel_rfl) (by omega) reads_pin (REnc.len pinCells_len)
theorem reads_rules:ReadsAs enc Tryz.prog w base spare held 25 (RSl RRule 4):=reads_slice Tryz.underlying25 (by kernel_rfl) (by omega) reads_rule (REnc.len ruleCells_len)
theorem reads_ints:ReadsAs enc Tryz.prog w base spare held 97 (RSl RInt 1):=reads_slice Tryz.underlying97 (by kernel_rfl) (by omega) (reads_int Tryz.underlying3) RInt.len
theorem reads_waves:ReadsAs enc Tryz.prog w base spare held 26 (RSl (RSl RInt 1) 1):=reads_slice Tryz.underlying26 (by kernel_rfl) (by omega) reads_ints RSl.len
end
open Go Go.Proofs
open Go.ChangeShapes Go.WideShapes Go.ChangeAt Go.RowKit
section
variable {HH : Type} {enc : TypeId × Value->HH} {w : World} {base : Nat} {spare : Nat->Bool} {held : Bool}
theorem fieldSl{P:Program}{t:TypeId}{fs:Array Field}{fuel:Nat}{cs:List Value}{x:DataW HH×List MemPlace}(ht:P.underlying t=some (.struct fs))(h:DataW.trod enc P w base spare held fuel t cs=some x){i:Nat}{f:Field}(hf:fs[i]?=some f){k:Nat}{α:Type}{R:Rep α}{sz:Nat}
  (hR:ReadsAs enc P w base spare held f.type (RSl R sz)) (hc:P.cellsOf f.type=1) (ho:f.offset=k):∃a n c xs,cs[k]?=some (.slice a n c)/\Sl R sz (heapOf w) a n xs:=by
 obtain⟨m,y,hy⟩:=fieldAt ht h hf
 obtain⟨xs,a,n,c,h1,hs⟩:=hR _ _ _ hy
 rw[hc,ho] at h1
 refine⟨a,n,c,xs,?_,hs⟩
 have:((cs.drop k).take 1)[0]?=some (.slice a n c):=by rw[h1];rfl
 simpa using this
theorem fieldStruct{P:Program}{t:TypeId}{fs:Array Field}{fuel:Nat}{cs:List Value}{x:DataW HH×List MemPlace}(ht:P.underlying t=some (.struct fs))(h:DataW.trod enc P w base spare held fuel t cs=some x){i:Nat}{f:Field}(hf:fs[i]?=some f){k n:Nat}{α:Type}{R:Rep α}
  (hR:ReadsAs enc P w base spare held f.type R) (hc:P.cellsOf f.type=n) (ho:f.offset=k):∃x:α,R (heapOf w) ((cs.drop k).take n) x:=by
 obtain⟨m,y,hy⟩:=fieldAt ht h hf
 obtain⟨x,hx⟩:=hR _ _ _ hy
 rw[hc,ho] at hx
 exact⟨x,hx⟩
def RRel:Rep Rls:=fun H r x=>∃a n c,r=[i64 x.id,.slice a n c]/\Pins H a n x.lock
theorem reads_rel:ReadsAs enc Tryz.prog w base spare held 24 RRel:=fun fuel cs x h=>by
 have c3: Tryz.prog.cellsOf 3=1:=by kernel_rfl
 have c40: Tryz.prog.cellsOf 22=1:=by kernel_rfl
 have c59: Tryz.prog.cellsOf 24=2:=by kernel_rfl
 have hl:=structLen Tryz.underlying24 h
 rw[c59] at hl
 obtain⟨i,hi,_⟩:=fieldInt Tryz.underlying24 h (i:=0) rfl Tryz.underlying3 c3 rfl
 obtain⟨a,n,c,xs,ha,hp⟩:=fieldSl Tryz.underlying24 h (i:=1) rfl reads_pins c40 rfl
 exact⟨⟨i,xs⟩,a,n,c,cells2 hl hi ha,hp⟩
theorem reads_mail:ReadsAs enc Tryz.prog w base spare held 74 RMail:=fun fuel cs x h=>by
 have c3: Tryz.prog.cellsOf 3=1:=by kernel_rfl
 have c4: Tryz.prog.cellsOf 4=1:=by kernel_rfl
 have c59: Tryz.prog.cellsOf 24=2:=by kernel_rfl
 have c61: Tryz.prog.cellsOf 74=6:=by kernel_rfl
 have hl:=structLen Tryz.underlying74 h
 rw[c61] at hl
 obtain⟨ag,h0,_⟩:=fieldInt Tryz.underlying74 h (i:=0) rfl Tryz.underlying3 c3 rfl
 obtain⟨tr,h1,_⟩:=fieldInt Tryz.underlying74 h (i:=1) rfl Tryz.underlying3 c3 rfl
 obtain⟨rp,h2⟩:=fieldBool Tryz.underlying74 h (i:=2) rfl Tryz.underlying4 c4 rfl
 obtain⟨gd,h3⟩:=fieldBool Tryz.underlying74 h (i:=3) rfl Tryz.underlying4 c4 rfl
 obtain⟨r,a,n,c,h4,hp⟩:=fieldStruct Tryz.underlying74 h (i:=4) rfl reads_rel c59 rfl
 refine⟨⟨ag,tr,rp,gd,r⟩,a,n,c,?_,hp⟩
 match cs,hl with
 | [x0,x1,x2,x3,x4,x5],_=>
  simp at h0 h1 h2 h3 h4
  obtain⟨rfl,rfl⟩:=h4
  subst h0 h1 h2 h3
  rfl
theorem reads_mails:ReadsAs enc Tryz.prog w base spare held 39 (RSl RMail 6):=reads_slice Tryz.underlying39 (by kernel_rfl) (by omega) reads_mail RMail.len
end
open Go Go.Proofs
open Go.ChangeShapes Go.WideShapes Go.ChangeAt Go.RowKit
section
variable {HH : Type} {enc : TypeId × Value->HH} {w : World} {base : Nat} {spare : Nat->Bool} {held : Bool}
def RAgt:Rep Agt:=fun H r x=>∃a n c ga gn gc,r=[.slice a n c,i64 x.at_,i64 x.try_,.bool x.going,i64 x.goal.id,.slice ga gn gc,.bool x.good]/\Pins H a n x.lock/\Pins H ga gn x.goal.lock
theorem reads_agt:ReadsAs enc Tryz.prog w base spare held 46 RAgt:=fun fuel cs x h=>by
 have c3: Tryz.prog.cellsOf 3=1:=by kernel_rfl
 have c4: Tryz.prog.cellsOf 4=1:=by kernel_rfl
 have c40: Tryz.prog.cellsOf 22=1:=by kernel_rfl
 have c59: Tryz.prog.cellsOf 24=2:=by kernel_rfl
 have c86: Tryz.prog.cellsOf 46=7:=by kernel_rfl
 have hl:=structLen Tryz.underlying46 h
 rw[c86] at hl
 obtain⟨a,n,c,xs,h0,hp⟩:=fieldSl Tryz.underlying46 h (i:=0) rfl reads_pins c40 rfl
 obtain⟨at_,h1,_⟩:=fieldInt Tryz.underlying46 h (i:=1) rfl Tryz.underlying3 c3 rfl
 obtain⟨tr,h2,_⟩:=fieldInt Tryz.underlying46 h (i:=2) rfl Tryz.underlying3 c3 rfl
 obtain⟨go,h3⟩:=fieldBool Tryz.underlying46 h (i:=3) rfl Tryz.underlying4 c4 rfl
 obtain⟨r,ga,gn,gc,h4,hg⟩:=fieldStruct Tryz.underlying46 h (i:=4) rfl reads_rel c59 rfl
 obtain⟨gd,h5⟩:=fieldBool Tryz.underlying46 h (i:=5) rfl Tryz.underlying4 c4 rfl
 refine⟨⟨xs,at_,tr,go,r,gd⟩,a,n,c,ga,gn,gc,?_,hp,hg⟩
 match cs,hl with
 | [x0,x1,x2,x3,x4,x5,x6],_=>
  simp at h0 h1 h2 h3 h4 h5
  obtain⟨rfl,rfl⟩:=h4
  subst h0 h1 h2 h3 h5
  rfl
end
open Go
structure Kn where
 st:Int
 try_:Int
 back:Bool
 deriving DecidableEq
structure Conf where
 first:Rls
 rules:List Rule
 waves:List (List Int)
 bud:Int
structure Ldr where
 rels:List Rls
 now:Int
 goal:Int
 back:Bool
 ags:List Kn
 nx:Int
 deriving DecidableEq
def agentsFrom:Int->List (List Int)->Int
 |n,[]=>n
 |n,w::q=>if 6<n+min 7 (w.length:Int) then n+min 7 (w.length:Int) else agentsFrom (n+min 7 (w.length:Int)) q
def agentsOf(ws:List (List Int)):Int:=agentsFrom 0 ws
def refAgents(ws:List (List Int)):Int:=if 6<ws.flatten.length then 7 else ws.flatten.length
theorem agentsFrom_spec:∀(ws:List (List Int))(n:Int),0<=n->n<=6->(n+ws.flatten.length<=6/\agentsFrom n ws=n+ws.flatten.length)∨(6<n+ws.flatten.length/\6<agentsFrom n ws)
 | [],n,h0,h6=> .inl (by simp[agentsFrom];omega)
 |w::q,n,h0,h6=>by
  unfold agentsFrom
  simp only[List.flatten_cons,List.length_append]
  split
  ·exact .inr (by omega)
  ·rename_i h
   have hm:min 7 (w.length:Int)=w.length:=by omega
   rw[hm] at h⊢
   rcases agentsFrom_spec q (n+w.length) (by omega) (by omega) with h1|h1
   ·exact .inl (by omega)
   ·exact .inr (by omega)
theorem agentsOf_spec(ws:List (List Int)):(ws.flatten.length<=6/\agentsOf ws=ws.flatten.length/\refAgents ws=ws.flatten.length)∨(6<ws.flatten.length/\6<agentsOf ws/\refAgents ws=7):=by
 rcases agentsFrom_spec ws 0 (by omega) (by omega) with h|h
 ·exact .inl ⟨by omega,by unfold agentsOf;omega,by unfold refAgents;rw[if_neg (by omega)]⟩
 ·exact .inr ⟨by omega,by unfold agentsOf;omega,by unfold refAgents;rw[if_pos (by omega)]⟩
theorem agents_same{ws:List (List Int)}(h:waveCheck ws (agentsOf ws)=0):refAgents ws=agentsOf ws/\1<=agentsOf ws/\agentsOf ws<=6:=by
 have hz:=waveCheck_zero h
 rcases agentsOf_spec ws with⟨h,h1,h2⟩|⟨h,h1,h2⟩
 ·exact⟨by omega,hz.1,hz.2.1⟩
 ·omega
def cfgErr(c:Conf):Int:=
 if relErr c.first≠0 then relErr c.first else
 if c.first.id≠1∨c.bud<0∨3<c.bud then 3 else
 if brokenErr c.first.lock c.rules≠0 then brokenErr c.first.lock c.rules else
 if 0<=broken c.first.lock c.rules then 8 else waveCheck c.waves (agentsOf c.waves)
def relsErr(rules:List Rule):Int->List Rls->Int
 |_,[]=>0
 |i,r::q=>if brokenErr r.lock rules≠0 then brokenErr r.lock rules else if 0<=broken r.lock rules then 8 else if r.id≠i+1 then 4 else relsErr rules (i+1) q
def badKn(nx:Int)(a:Kn):Prop:=a.st<0∨3<a.st∨a.try_<0∨nx<=a.try_
instance (nx:Int)(a:Kn):Decidable (badKn nx a):=by unfold badKn;infer_instance
def oddKn(goal:Int)(back:Bool)(a:Kn):Prop:=(a.st≠0/\(goal=0∨a.try_=0))∨(a.back=true/\(back=false∨a.st=0))
instance (goal:Int)(back:Bool)(a:Kn):Decidable (oddKn goal back a):=by unfold oddKn;infer_instance
def knErr(goal nx:Int)(back:Bool):List Kn->Int
 | []=>0
 |a::q=>if badKn nx a then 3 else if oddKn goal back a then 4 else knErr goal nx back q
def ldrRange(l:Ldr):Prop:=l.now<1∨(l.rels.length:Int)<l.now∨l.goal<0∨(l.rels.length:Int)<l.goal∨l.nx<1∨201<l.nx
instance (l:Ldr):Decidable (ldrRange l):=by unfold ldrRange;infer_instance
def ldrForm(c:Conf)(l:Ldr):Prop:=l.goal=l.now∨(l.goal=0/\l.back=true)∨(l.ags.length:Int)≠agentsOf c.waves∨l.rels[0]?≠some c.first
instance (c:Conf)(l:Ldr):Decidable (ldrForm c l):=by unfold ldrForm;infer_instance
def ldrErr(c:Conf)(l:Ldr):Int:=
 if cfgErr c≠0 then cfgErr c else
 if l.rels.length=0∨6<l.rels.length then 2 else
 if relsErr c.rules 0 l.rels≠0 then relsErr c.rules 0 l.rels else
 if ldrRange l then 3 else if ldrForm c l then 4 else knErr l.goal l.nx l.back l.ags
def thr(l:List Kn):List Bool:=l.map fun a=>decide (a.st=2∨a.st=3)
def cnt(k:Int)(l:List Kn):Int:=(l.filter fun a=>decide (a.st=k)).length
def noLdr:Ldr:=⟨[],0,0,false,[],0⟩
def newLdr(c:Conf):Ldr:=⟨[c.first],1,0,false,List.replicate (agentsOf c.waves).toNat ⟨0,0,false⟩,1⟩
def turnOf(c:Conf)(l:Ldr)(k:Int):Bool:=match l.ags[k.toNat]? with
 |none=>false
 |some a=>if l.back=true then decide (a.st≠0/\a.back=false) else decide (waveCheck c.waves l.ags.length=0/\a.st=0/\waveOf c.waves k=waveNow c.waves (thr l.ags)/\cnt 3 l.ags<=c.bud)
def busy(a:Kn):Prop:=a.st=1∨(a.st≠0/\a.back=false)
instance (a:Kn):Decidable (busy a):=by unfold busy;infer_instance
def overOf(c:Conf)(l:Ldr):Bool:=if l.back=false then decide (cnt 3 l.ags<=c.bud/\false∉thr l.ags) else decide (∀a∈l.ags,¬busy a)
def goalOf(l:Ldr):Int:=if l.back=true then l.now else l.goal
def ledKind(c:Conf)(l:Ldr)(r:Recd):Int:=
 if r.kind=4 then(if l.rels.length=6 then 2 else if r.rel.id≠l.rels.length+1 then 7 else if brokenErr r.rel.lock c.rules≠0 then brokenErr r.rel.lock c.rules else if 0<=broken r.rel.lock c.rules then 8 else 0) else
 if r.kind=5 then(if l.goal≠0 then 7 else if(l.rels.length:Int)<r.num then 5 else if r.num=l.now then 6 else 0) else
 if r.kind=6∨r.kind=7 then(if(l.ags.length:Int)<=r.agent then 5 else
  if r.kind=7 then(match l.ags[r.agent.toNat]? with|none=>5|some a=>if a.st≠1∨r.try_≠a.try_ then 7 else 0) else
  (if l.goal=0∨r.try_≠l.nx∨turnOf c l r.agent=false then 7 else 0)) else
 if r.kind=8 then(if l.goal=0∨l.back=true then 7 else 0) else
 if r.kind=9 then(if l.goal=0∨overOf c l=false then 7 else 0) else 4
def ledErr(c:Conf)(l:Ldr)(r:Recd):Int:=
 if ldrErr c l≠0 then ldrErr c l else if recErr r≠0 then recErr r else ledKind c l r
def got(r:Recd)(a:Kn):Kn:=⟨if r.good=true then 2 else 3,a.try_,a.back⟩
def ledNext(l:Ldr)(r:Recd):Ldr:=
 if r.kind=4 then{ l with rels:=l.rels++[r.rel] } else
 if r.kind=5 then{ l with goal:=r.num } else
 if r.kind=6 then{ l with ags:=l.ags.set r.agent.toNat ⟨1,r.try_,l.back⟩,nx:=l.nx+1 } else
 if r.kind=7 then{ l with ags:=(match l.ags[r.agent.toNat]? with|none=>l.ags|some a=>l.ags.set r.agent.toNat (got r a)) } else
 if r.kind=8 then{ l with back:=true } else
 { l with now:=(if l.back=false then l.goal else l.now),goal:=0,back:=false,ags:=l.ags.map fun a=>⟨0,a.try_,false⟩ }
def ledV(c:Conf)(l:Ldr)(r:Recd):Ldr:=if ledErr c l r=0 then ledNext l r else noLdr
def ledFrom(c:Conf):Ldr->List Recd->Except Int Ldr
 |l,[]=> .ok l
 |l,r::q=>if ledErr c l r=0 then ledFrom c (ledNext l r) q else .error (ledErr c l r)
def ledReplay(c:Conf)(rs:List Recd):Except Int Ldr:=if cfgErr c≠0 then .error (cfgErr c) else if 200<rs.length then .error 2 else ledFrom c (newLdr c) rs
def okLd:Except Int Ldr->Ldr
 | .ok l=>l
 | .error _=>noLdr
theorem cfgErr_zero{c:Conf}(h:cfgErr c=0):relErr c.first=0/\c.first.id=1/\0<=c.bud/\c.bud<=3/\brokenErr c.first.lock c.rules=0/\broken c.first.lock c.rules<0/\waveCheck c.waves (agentsOf c.waves)=0:=by
 unfold cfgErr at h
 split at h
 ·omega
 ·split at h
  ·omega
  ·split at h
   ·omega
   ·split at h
    ·omega
    ·exact⟨by omega,by omega,by omega,by omega,by omega,by omega,h⟩
theorem relsErr_zero{rules:List Rule} :∀ {l:List Rls} {i:Int},relsErr rules i l=0↔ ∀(j:Nat)(r:Rls),l[j]?=some r->brokenErr r.lock rules=0/\broken r.lock rules<0/\r.id=i+j+1
 | [],i=>by simp[relsErr]
 |x::q,i=>by
  unfold relsErr
  constructor
  ·intro h
   split at h
   ·omega
   ·split at h
    ·omega
    ·split at h
     ·omega
     ·intro j r hj
      cases j with
      |zero=>simp at hj;subst hj;exact⟨by omega,by omega,by omega⟩
      |succ j=>
       have:=relsErr_zero.1 h j r (by simpa using hj)
       exact⟨this.1,this.2.1,by rw[this.2.2];push_cast;omega⟩
  ·intro h
   have h0:=h 0 x rfl
   rw[if_neg (by omega),if_neg (by omega),if_neg (by omega)]
   exact relsErr_zero.2 fun j r hj=>by
    have:=h (j+1) r (by simpa using hj)
    exact⟨this.1,this.2.1,by rw[this.2.2];push_cast;omega⟩
theorem knErr_zero{goal nx:Int}{back:Bool} :∀ {l:List Kn},knErr goal nx back l=0↔ ∀a∈l,¬badKn nx a/\¬oddKn goal back a
 | []=>by simp[knErr]
 |x::q=>by
  unfold knErr
  constructor
  ·intro h
   split at h
   ·omega
   ·split at h
    ·omega
    ·intro a ha
     rcases List.mem_cons.1 ha with rfl|ha
     ·exact⟨by assumption,by assumption⟩
     ·exact knErr_zero.1 h a ha
  ·intro h
   have h0:=h x List.mem_cons_self
   rw[if_neg h0.1,if_neg h0.2]
   exact knErr_zero.2 fun a ha=>h a (List.mem_cons_of_mem _ ha)
theorem ldrErr_zero{c:Conf}{l:Ldr} :ldrErr c l=0↔cfgErr c=0/\1<=l.rels.length/\l.rels.length<=6/\relsErr c.rules 0 l.rels=0/\¬ldrRange l/\¬ldrForm c l/\knErr l.goal l.nx l.back l.ags=0:=by
 unfold ldrErr
 constructor
 ·intro h
  split at h
  ·omega
  ·split at h
   ·omega
   ·split at h
    ·omega
    ·split at h
     ·omega
     ·split at h
      ·omega
      ·exact⟨by omega,by omega,by omega,by omega,by assumption,by assumption,h⟩
 ·rintro⟨h1,h2,h3,h4,h5,h6,h7⟩
  rw[if_neg (by omega),if_neg (by omega),if_neg (by omega),if_neg h5,if_neg h6,h7]
theorem rel_lock{rules:List Rule}{l:List Rls}{i:Int}(h:relsErr rules i l=0):∀r∈l,Lk r.lock/\r.lock.length<=12:=fun r hr=>by
 obtain⟨j,hj⟩:=List.getElem?_of_mem hr
 exact(brokenErr_zero.1 (relsErr_zero.1 h j r hj).1).1
def Rg(n:Int):Prop:= -9223372036854775808<=n/\n<=9223372036854775807
def RRl:Rep Rls:=fun H r x=>∃a n c,r=[i64 x.id,.slice a n c]/\Pins H a n x.lock/\Rg x.id
theorem RRl.mono:RRl.Mono:=fun _ _ _ _ e ⟨a,n,c,h,hp,hg⟩=>⟨a,n,c,h,hp.ext' e,hg⟩
theorem RRl.len{H:Heap}{r:List Value}{m:Rls}(h:RRl H r m):r.length=2:=by obtain⟨a,n,c,rfl,_⟩:=h;rfl
theorem RRl.one{r:List Value}{m:Rls}{H:Heap}(h:RRl H r m):allOne r=true:=by obtain⟨a,n,c,rfl,_⟩:=h;rfl
abbrev Rels(H:Heap)(a:O)(n:Nat)(l:List Rls):Prop:=Sl RRl 2 H a n l
theorem Rels.ext'{H H':Heap}{a:O}{n:Nat}{l:List Rls}(h:Rels H a n l)(e:Ext H H'):Rels H' a n l:=Sl.ext RRl.mono h e
def knCells(a:Kn):List Value:=[i64 a.st,i64 a.try_,.bool a.back]
theorem knCells_len(a:Kn):(knCells a).length=3:=rfl
theorem knCells_one(a:Kn):allOne (knCells a)=true:=rfl
abbrev Kns(H:Heap)(a:O)(n:Nat)(l:List Kn):Prop:=Sl (REnc knCells) 3 H a n l
theorem Kns.ext'{H H':Heap}{a:O}{n:Nat}{l:List Kn}(h:Kns H a n l)(e:Ext H H'):Kns H' a n l:=Sl.ext REnc.mono h e
theorem Sl.rl{H H':Heap}{a:O}{n:Nat}{xs:List Rls}(h:Rels H a n xs)(e:Ext H H'){k:Int}(h0:0<=k)(h1:k<n){F:Int->O->Nat->Nat->Prop}
  (hF:∀m a n c,xs[k.toNat]?=some m->Pins H a n m.lock->F m.id a n c):
  ∃(b o:Nat),a=some ⟨b,o,none⟩/\0<=k/\k<n/\∃(z:Int)(a':O)(n' c':Nat),(H'.cell b (o+k.toNat*2)=some (.int .i64 z)/\H'.cell b (o+k.toNat*2+1)=some (.slice a' n' c')/\True)/\F z a' n' c':=by
 obtain⟨b,o,r,x,ha,hx,⟨a',n',c',rfl,hp,_⟩,hc⟩:=h.get h0 h1
 exact⟨b,o,ha,h0,h1,_,_,_,_,⟨Heap.cell_next e (hc 0 _ rfl),Heap.cell_next e (hc 1 _ rfl),trivial⟩,hF x a' n' c' hx hp⟩
theorem Sl.kn{H H':Heap}{a:O}{n:Nat}{xs:List Kn}(h:Kns H a n xs)(e:Ext H H'){k:Int}(h0:0<=k)(h1:k<n){F:Int->Int->Bool->Prop}(hF:∀m,xs[k.toNat]?=some m->F m.st m.try_ m.back):
  ∃(b o:Nat),a=some ⟨b,o,none⟩/\0<=k/\k<n/\∃(x y:Int)(q:Bool),(H'.cell b (o+k.toNat*3)=some (.int .i64 x)/\H'.cell b (o+k.toNat*3+1)=some (.int .i64 y)/\H'.cell b (o+k.toNat*3+2)=some (.bool q)/\True)/\F x y q:=by
 obtain⟨b,o,r,x,ha,hx,rfl,hc⟩:=h.get h0 h1
 exact⟨b,o,ha,h0,h1,_,_,_,⟨Heap.cell_next e (hc 0 _ rfl),Heap.cell_next e (hc 1 _ rfl),Heap.cell_next e (hc 2 _ rfl),trivial⟩,hF x hx⟩
abbrev cfgArg(c:Conf)(fa:O)(fl fc:Nat)(ra:O)(rl rc:Nat)(wa:O)(wl wc:Nat):Value:= .agg #[.int .i64 c.first.id,.slice fa fl fc,.slice ra rl rc,.slice wa wl wc,.int .i64 c.bud]
abbrev ldrArg(l:Ldr)(la:O)(ll lc:Nat)(ka:O)(kl kc:Nat):Value:= .agg #[.slice la ll lc,.int .i64 l.now,.int .i64 l.goal,.bool l.back,.slice ka kl kc,.int .i64 l.nx]
structure CfgAt(H:Heap)(c:Conf)(fa:O)(fl:Nat)(ra:O)(rl:Nat)(wa:O)(wl:Nat):Prop where
 pins:Pins H fa fl c.first.lock
 rules:Rules H ra rl c.rules
 waves:Waves H wa wl c.waves
theorem CfgAt.ext{H H':Heap}{c:Conf}{fa ra wa:O}{fl rl wl:Nat}(h:CfgAt H c fa fl ra rl wa wl)(e:Ext H H'):CfgAt H' c fa fl ra rl wa wl:=⟨h.pins.ext' e,Sl.ext REnc.mono h.rules e,h.waves.ext' e⟩
structure LdrAt(H:Heap)(l:Ldr)(la:O)(ll:Nat)(ka:O)(kl:Nat):Prop where
 rels:Rels H la ll l.rels
 ags:Kns H ka kl l.ags
theorem LdrAt.ext{H H':Heap}{l:Ldr}{la ka:O}{ll kl:Nat}(h:LdrAt H l la ll ka kl)(e:Ext H H'):LdrAt H' l la ll ka kl:=⟨h.rels.ext' e,h.ags.ext' e⟩
theorem Spec.ldr{P:Program}{f:FuncId}{args:List Value}{H:Heap}{x:Ldr}{e:Int}(h:Spec P f args H fun v H'=>∃la ll lc ka kl kc,v= .tuple #[ldrArg x la ll lc ka kl kc,i64 e]/\LdrAt H' x la ll ka kl){base:Nat}
  {G:O->Nat->Nat->Int->Int->Bool->O->Nat->Nat->Int->Int->Heap->Prop} (hG:∀la ll lc ka kl kc H',Ext H H'->Next base H H'->LdrAt H' x la ll ka kl->G la ll lc x.now x.goal x.back ka kl kc x.nx e H'):
  Spec P f args H fun v H'=>∃(la:O)(ll lc:Nat)(n2 n3:Int)(b:Bool)(ka:O)(kl kc:Nat)(n6 n7:Int),v= .tuple #[.agg #[.slice la ll lc,.int .i64 n2,.int .i64 n3,.bool b,.slice ka kl kc,.int .i64 n6],.int .i64 n7]/\(Next base H H'->G la ll lc n2 n3 b ka kl kc n6 n7 H'):=
 h.mono fun v H' ex hv=>by
  obtain⟨la,ll,lc,ka,kl,kc,h1,h2⟩:=hv
  exact⟨la,ll,lc,_,_,_,ka,kl,kc,_,e,h1,fun hN=>hG la ll lc ka kl kc H' ex hN h2⟩
open Go Go.Proofs
open Go.ChangeShapes Go.WideShapes Go.ChangeAt Go.RowKit
section
variable {HH : Type} {enc : TypeId × Value->HH} {w : World} {base : Nat} {spare : Nat->Bool} {held : Bool}
theorem reads_kn:ReadsAs enc Tryz.prog w base spare held 95 (REnc knCells):=fun fuel cs x h=>by
 have c3: Tryz.prog.cellsOf 3=1:=by kernel_rfl
 have c4: Tryz.prog.cellsOf 4=1:=by kernel_rfl
 have c111: Tryz.prog.cellsOf 95=3:=by kernel_rfl
 have hl:=structLen Tryz.underlying95 h
 rw[c111] at hl
 obtain⟨st,h0,_⟩:=fieldInt Tryz.underlying95 h (i:=0) rfl Tryz.underlying3 c3 rfl
 obtain⟨tr,h1,_⟩:=fieldInt Tryz.underlying95 h (i:=1) rfl Tryz.underlying3 c3 rfl
 obtain⟨bk,h2⟩:=fieldBool Tryz.underlying95 h (i:=2) rfl Tryz.underlying4 c4 rfl
 refine⟨⟨st,tr,bk⟩,?_⟩
 match cs,hl with
 | [x0,x1,x2],_=>
  simp at h0 h1 h2
  subst h0 h1 h2
  rfl
theorem reads_kns:ReadsAs enc Tryz.prog w base spare held 30 (RSl (REnc knCells) 3):=reads_slice Tryz.underlying30 (by kernel_rfl) (by omega) reads_kn (REnc.len knCells_len)
theorem reads_rl:ReadsAs enc Tryz.prog w base spare held 24 RRl:=fun fuel cs x h=>by
 have c3: Tryz.prog.cellsOf 3=1:=by kernel_rfl
 have c40: Tryz.prog.cellsOf 22=1:=by kernel_rfl
 have c59: Tryz.prog.cellsOf 24=2:=by kernel_rfl
 have hl:=structLen Tryz.underlying24 h
 rw[c59] at hl
 obtain⟨i,hi,h1,h2⟩:=fieldInt Tryz.underlying24 h (i:=0) rfl Tryz.underlying3 c3 rfl
 obtain⟨a,n,c,xs,ha,hp⟩:=fieldSl Tryz.underlying24 h (i:=1) rfl reads_pins c40 rfl
 exact⟨⟨i,xs⟩,a,n,c,cells2 hl hi ha,hp,h1,h2⟩
theorem reads_rls:ReadsAs enc Tryz.prog w base spare held 29 (RSl RRl 2):=reads_slice Tryz.underlying29 (by kernel_rfl) (by omega) reads_rl RRl.len
def RConf:Rep Conf:=fun H r x=>∃fa fl fc ra rl rc wa wl wc,r=[i64 x.first.id,.slice fa fl fc,.slice ra rl rc,.slice wa wl wc,i64 x.bud]/\CfgAt H x fa fl ra rl wa wl
theorem reads_conf:ReadsAs enc Tryz.prog w base spare held 28 RConf:=fun fuel cs x h=>by
 have c3: Tryz.prog.cellsOf 3=1:=by kernel_rfl
 have c41: Tryz.prog.cellsOf 25=1:=by kernel_rfl
 have c27: Tryz.prog.cellsOf 26=1:=by kernel_rfl
 have c59: Tryz.prog.cellsOf 24=2:=by kernel_rfl
 have c101: Tryz.prog.cellsOf 28=5:=by kernel_rfl
 have hl:=structLen Tryz.underlying28 h
 rw[c101] at hl
 obtain⟨r,fa,fl,fc,h0,hp⟩:=fieldStruct Tryz.underlying28 h (i:=0) rfl reads_rel c59 rfl
 obtain⟨ra,rl,rc,rs,h1,hr⟩:=fieldSl Tryz.underlying28 h (i:=1) rfl reads_rules c41 rfl
 obtain⟨wa,wl,wc,ws,h2,hw⟩:=fieldSl Tryz.underlying28 h (i:=2) rfl reads_waves c27 rfl
 obtain⟨bd,h3,_⟩:=fieldInt Tryz.underlying28 h (i:=3) rfl Tryz.underlying3 c3 rfl
 refine⟨⟨r,rs,ws,bd⟩,fa,fl,fc,ra,rl,rc,wa,wl,wc,?_,hp,hr,hw⟩
 match cs,hl with
 | [x0,x1,x2,x3,x4],_=>
  simp at h0 h1 h2 h3
  obtain⟨rfl,rfl⟩:=h0
  subst h1 h2 h3
  rfl
def RLdr:Rep Ldr:=fun H r x=>∃la ll lc ka kl kc,r=[.slice la ll lc,i64 x.now,i64 x.goal,.bool x.back,.slice ka kl kc,i64 x.nx]/\LdrAt H x la ll ka kl
theorem reads_ldr:ReadsAs enc Tryz.prog w base spare held 32 RLdr:=fun fuel cs x h=>by
 have c3: Tryz.prog.cellsOf 3=1:=by kernel_rfl
 have c4: Tryz.prog.cellsOf 4=1:=by kernel_rfl
 have c102: Tryz.prog.cellsOf 29=1:=by kernel_rfl
 have c103: Tryz.prog.cellsOf 30=1:=by kernel_rfl
 have c105: Tryz.prog.cellsOf 32=6:=by kernel_rfl
 have hl:=structLen Tryz.underlying32 h
 rw[c105] at hl
 obtain⟨la,ll,lc,rs,h0,hr⟩:=fieldSl Tryz.underlying32 h (i:=0) rfl reads_rls c102 rfl
 obtain⟨nw,h1,_⟩:=fieldInt Tryz.underlying32 h (i:=1) rfl Tryz.underlying3 c3 rfl
 obtain⟨gl,h2,_⟩:=fieldInt Tryz.underlying32 h (i:=2) rfl Tryz.underlying3 c3 rfl
 obtain⟨bk,h3⟩:=fieldBool Tryz.underlying32 h (i:=3) rfl Tryz.underlying4 c4 rfl
 obtain⟨ka,kl,kc,ks,h4,hk⟩:=fieldSl Tryz.underlying32 h (i:=4) rfl reads_kns c103 rfl
 obtain⟨nx,h5,_⟩:=fieldInt Tryz.underlying32 h (i:=5) rfl Tryz.underlying3 c3 rfl
 refine⟨⟨rs,nw,gl,bk,ks,nx⟩,la,ll,lc,ka,kl,kc,?_,hr,hk⟩
 match cs,hl with
 | [x0,x1,x2,x3,x4,x5],_=>
  simp at h0 h1 h2 h3 h4 h5
  subst h0 h1 h2 h3 h4 h5
  rfl
end
open Go Go.Proofs
open Go.ChangeShapes Go.WideShapes Go.ChangeAt Go.RowKit
def RSlC{α:Type}(R:Rep α)(sz:Nat):Rep (List α):=fun H r xs=>∃a n c,r=[.slice a n c]/\Sl R sz H a n xs/\n<=c
section
variable {HH : Type} {enc : TypeId × Value->HH} {w : World} {base : Nat} {spare : Nat->Bool} {held : Bool}
theorem reads_sliceC{P:Program}{t e:TypeId}{sz:Nat}{α:Type}{R:Rep α}(ht:P.underlying t=some (.slice e))(hR:ReadsAs enc P w base spare held t (RSl R sz)):ReadsAs enc P w base spare held t (RSlC R sz):=fun fuel cs x h=>by
 obtain⟨xs,a,n,c,rfl,hs⟩:=hR fuel cs x h
 refine⟨xs,a,n,c,rfl,hs,?_⟩
 rcases DataW.trod_slice ht h with⟨h,_⟩|⟨a2,len,cap,elems,rest,m,_,h,_,_,hl,_⟩
 ·simp at h;omega
 ·simp at h;omega
theorem reads_u8{P:Program}{t:TypeId}(ht:P.underlying t=some (.int .u8)):ReadsAs enc P w base spare held t (REnc u8Cell):=fun _ _ _ h=>by
 obtain⟨n,rfl,_,hw⟩:=DataW.trod_int ht h
 have hb:0<=n/\n<=255:=bounds_u8 hw
 refine⟨UInt8.ofNat n.toNat,?_⟩
 show [Value.int .u8 n]=[Value.int .u8 ((UInt8.ofNat n.toNat).toNat:Int)]
 rw[UInt8.toNat_ofNat']
 congr 2
 omega
theorem REnc.len1{H:Heap}{r:List Value}{x:UInt8}(h:REnc u8Cell H r x):r.length=1:=by cases h;rfl
theorem reads_bytes:ReadsAs enc Tryz.prog w base spare held 33 (RSl (REnc u8Cell) 1):=reads_slice Tryz.underlying33 (by kernel_rfl) (by omega) (reads_u8 Tryz.underlying5) REnc.len1
theorem fieldSlC{P:Program}{t:TypeId}{fs:Array Field}{fuel:Nat}{cs:List Value}{x:DataW HH×List MemPlace}(ht:P.underlying t=some (.struct fs))(h:DataW.trod enc P w base spare held fuel t cs=some x){i:Nat}{f:Field}(hf:fs[i]?=some f){k:Nat}{α:Type}{R:Rep α}{sz:Nat}
  (hR:ReadsAs enc P w base spare held f.type (RSlC R sz)) (hc:P.cellsOf f.type=1) (ho:f.offset=k):∃a n c xs,cs[k]?=some (.slice a n c)/\Sl R sz (heapOf w) a n xs/\n<=c:=by
 obtain⟨m,y,hy⟩:=fieldAt ht h hf
 obtain⟨xs,a,n,c,h1,hs,hle⟩:=hR _ _ _ hy
 rw[hc,ho] at h1
 refine⟨a,n,c,xs,?_,hs,hle⟩
 have:((cs.drop k).take 1)[0]?=some (.slice a n c):=by rw[h1];rfl
 simpa using this
def RDsk:Rep Dsk:=fun H r x=>∃sa sn sc wa wn wc,r=[.slice sa sn sc,.slice wa wn wc]/\DskAt H x sa sn sc wa wn wc
theorem reads_disk:ReadsAs enc Tryz.prog w base spare held 35 RDsk:=fun fuel cs x h=>by
 have c22: Tryz.prog.cellsOf 33=1:=by kernel_rfl
 have c24: Tryz.prog.cellsOf 35=2:=by kernel_rfl
 have hl:=structLen Tryz.underlying35 h
 rw[c24] at hl
 obtain⟨sa,sn,sc,xs,h0,hx,l0⟩:=fieldSlC Tryz.underlying35 h (i:=0) rfl (reads_sliceC Tryz.underlying33 reads_bytes) c22 rfl
 obtain⟨wa,wn,wc,ys,h1,hy,l1⟩:=fieldSlC Tryz.underlying35 h (i:=1) rfl (reads_sliceC Tryz.underlying33 reads_bytes) c22 rfl
 refine⟨⟨xs,ys⟩,sa,sn,sc,wa,wn,wc,?_,hx,hy,l0,l1⟩
 match cs,hl with
 | [x0,x1],_=>
  simp at h0 h1
  subst h0 h1
  rfl
end
end Go.Vg
