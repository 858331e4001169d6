/- What is proved here: a part of the proof of laws of this seat: what a contract is, how it comes of a condition, contracts of the functions that are reached, the plain laws. -/
import Derived.Test.YtgaegoefbekndaaGreatDoorSS10
set_option linter.unusedSimpArgs false
set_option linter.unusedVariables false
set_option maxRecDepth 100000
namespace Go.Vg
open Go Go.Proofs
theorem beq_bytes(a b:List UInt8):(a==b)=decide (a=b):=by by_cases h:a=b<;>simp[h]
theorem eqS{xo yo:Operand}{s t:ByteArray} :RunsTo Tryz.prog (binRun .eql 9 xo yo (.string s) (.string t)) (.bool (decide (s.data.toList=t.data.toList))):=by
 have:=eqStr (xo:=xo) (yo:=yo) (s:=s) (t:=t)
 rw[ByteArray.toList_eq,ByteArray.toList_eq,beq_bytes] at this
 exact this
theorem neS{xo yo:Operand}{s t:ByteArray} :RunsTo Tryz.prog (binRun .neq 9 xo yo (.string s) (.string t)) (.bool (decide (¬s.data.toList=t.data.toList))):=by
 intro w
 have hg:(eqGuard .neq 9 xo yo (.string s) (.string t)).run Tryz.prog w= .ok () w:=by simp[eqGuard]
 simp only[binRun,Sem.run_bind,hg,Result.andThen_ok]
 have:=run_equalIn_string (P:= Tryz.prog) w 9999 9 s t Tryz.underlying9
 have e:(s.toList==t.toList)=decide (s.data.toList=t.data.toList):=by rw[ByteArray.toList_eq,ByteArray.toList_eq,beq_bytes]
 simp[binOp,Op.equal,this,Op.stringOp,e]
theorem eqNilE{xo:Operand} :RunsTo Tryz.prog (binRun .eql 263 xo (.const .nilIface) .nilIface .nilIface) (.bool true):=by
 intro w
 have hu:=run_underlying Tryz.underlying263
 have hg:(eqGuard .eql 263 xo (.const .nilIface) .nilIface .nilIface).run Tryz.prog w= .ok () w:=by simp[eqGuard]
 have he:(Op.equalIn (9999+1) 263 .nilIface .nilIface).run Tryz.prog w= .ok true w:=by
  rw[Op.equalIn]
  simp only[Sem.run_bind,hu,Result.andThen_ok]
  rfl
 simp only[binRun,Sem.run_bind,hg,Result.andThen_ok]
 simp[binOp,Op.equal,show Op.maxDepth=9999+1 from rfl,he]
theorem eqIfaceE{xo:Operand}{t:TypeId}{p:Value} :RunsTo Tryz.prog (binRun .eql 263 xo (.const .nilIface) (.iface t p) .nilIface) (.bool false):=by
 intro w
 have hu:=run_underlying Tryz.underlying263
 have hg:(eqGuard .eql 263 xo (.const .nilIface) (.iface t p) .nilIface).run Tryz.prog w= .ok () w:=by simp[eqGuard]
 have he:(Op.equalIn (9999+1) 263 (.iface t p) .nilIface).run Tryz.prog w= .ok false w:=by
  rw[Op.equalIn]
  simp only[Sem.run_bind,hu,Result.andThen_ok]
  rfl
 simp only[binRun,Sem.run_bind,hg,Result.andThen_ok]
 simp[binOp,Op.equal,show Op.maxDepth=9999+1 from rfl,he]
theorem box_cells{H:Heap}{g:Nat}{e:TypeId}{cs:List Value}(h:H g=some (boxKB e cs)):Vg.cellsAt H g 0 0 cs:=
 cellsAt_of _ 0 fun j v hj=>by unfold Heap.cell;rw[h];simpa[boxKB] using hj
section
variable {H : Heap} (hL : Lb H)
include hL
theorem cNumber{s:ByteArray}(hs:s.size<=281474976710656):Spec Tryz.prog 251 [.string s] H fun v _=>∃(n:Int)(b:Bool),v= .tuple #[.int .i64 n,.bool b]/\(b=true->num s.data.toList=some n)/\(b=false->num s.data.toList=none):=by
 refine Tryzvc Tryz.func251 (by kernel_rfl) (by kernel_rfl) _ rfl (fun base K=>vd44 s base H K) fun base hb=> ?_
 refine(l_atoi hL hs).spec.mono fun v H1 e1 hv=> ?_
 obtain⟨⟨n,e,rfl,h⟩,_⟩:=hv
 rcases h with⟨hok,rfl⟩|⟨hno,t,p,rfl⟩
 ·have hbd:=Lib.atoiAll_bounds hok
  refine⟨n,.inl ⟨rfl,fun hN=>⟨true,eqNilE,fun _=>(l_itoa (hL.ext e1) hbd.1 hbd.2).str1 fun H2 e2 hN2=>⟨_,eqS,n,_,rfl,fun h=> ?_,fun h=> ?_⟩,fun h=>absurd rfl h⟩⟩⟩
  ·simp at h
   rw[num,hok];simp[h]
  ·simp at h
   rw[num,hok];simp[h]
 ·refine⟨n,.inr ⟨t,p,rfl,fun hN=>⟨false,eqIfaceE,fun h=>(by cases h),fun _=>⟨n,false,rfl,fun h=>(by cases h),fun _=> ?_⟩⟩⟩⟩
  unfold num
  split
  ·rename_i v hv;exact absurd hv (hno v)
  ·rfl
theorem cWhole{s:ByteArray}(hs:s.size<=281474976710656):Spec Tryz.prog 210 [.string s] H fun v _=>∃(n:Int)(b:Bool),v= .tuple #[.int .i64 n,.bool b]/\(b=true->num s.data.toList=some n)/\(b=false->num s.data.toList=none):=by
 refine Tryzvc Tryz.func210 (by kernel_rfl) (by kernel_rfl) _ rfl (fun base K=>vd49 s base H K) fun base hb=> ?_
 refine(l_pint hL hs).spec.mono fun v H1 e1 hv=> ?_
 obtain⟨⟨n,e,rfl,h⟩,_⟩:=hv
 rcases h with⟨hok,rfl⟩|⟨hno,t,p,rfl⟩
 ·have hbd:=Lib.atoiAll_bounds hok
  refine⟨n,.inl ⟨rfl,fun hN=>⟨true,eqNilE,fun _=>(l_fmt (hL.ext e1) hbd.1 hbd.2).str1 fun H2 e2 hN2=>⟨_,eqS,n,_,rfl,fun h=> ?_,fun h=> ?_⟩,fun h=>absurd rfl h⟩⟩⟩
  ·simp at h
   rw[num,hok];simp[h]
  ·simp at h
   rw[num,hok];simp[h]
 ·refine⟨n,.inr ⟨t,p,rfl,fun hN=>⟨false,eqIfaceE,fun h=>(by cases h),fun _=>⟨n,false,rfl,fun h=>(by cases h),fun _=> ?_⟩⟩⟩⟩
  unfold num
  split
  ·rename_i v hv;exact absurd hv (hno v)
  ·rfl
end
open Go Go.Proofs
theorem cuts_len(c:UInt8):∀s:List UInt8,(cuts c s).length<=s.length+1
 | []=>by simp[cuts]
 |b::r=>by
  have ih:=cuts_len c r
  have:=cuts_ne c r
  have hp:0<(cuts c r).length:=List.length_pos_iff.2 this
  unfold cuts
  split
  ·simp;omega
  ·simp;omega
theorem mem_cuts_len{c:UInt8}{s w:List UInt8}(h:w∈cuts c s):w.length<=s.length:=by
 have hj:=joinB_cuts c s
 have key:∀(ws:List (List UInt8)),w∈ws->w.length<=(joinB c ws).length:=by
  intro ws hw
  cases ws with
  |nil=>cases hw
  |cons x r=>
   unfold joinB
   rcases List.mem_cons.1 hw with rfl|hw
   ·simp
   ·obtain⟨i,hi⟩:=List.getElem?_of_mem hw
    have:(c::w).length<=(r.flatMap fun y=>c::y).length:=by
     clear hi i h hj
     induction r with
     |nil=>cases hw
     |cons y t ih=>
      simp only[List.flatMap_cons,List.length_append]
      rcases List.mem_cons.1 hw with rfl|hw
      ·omega
      ·have:=ih (by simp[hw]) hw;omega
    simp only[List.length_append];simp at this⊢;omega
 rw[←hj];exact key _ h
theorem readPins_cons{w:List UInt8}{ws:List (List UInt8)}{p:Pin}(h:readPin w=some p):readPins (w::ws)=(readPins ws).map (p:: ·):=by rw[readPins,h]
theorem readPins_bad{w:List UInt8}{ws:List (List UInt8)}(h:readPin w=none):readPins (w::ws)=none:=by rw[readPins,h]
theorem lockRead_none{s:List UInt8}(h:readWords s=none):lockRead s= .error 1:=by rw[lockRead,h]
theorem lockRead_some{s:List UInt8}{l:List Pin}(h:readWords s=some l):lockRead s=if lockCheck l=0 then .ok l else .error (lockCheck l):=by rw[lockRead,h]
theorem data_mk(l:List UInt8):(⟨l.toArray⟩:ByteArray).data.toList=l:=rfl
theorem size_mk(l:List UInt8):(⟨l.toArray⟩:ByteArray).size=l.length:=rfl
theorem size_data(s:ByteArray):s.size=s.data.toList.length:=by simp
def Apart(H1:Heap)(a:O)(c:Nat):Prop:=c≠0->∀x k,H1 x=some k->a≠some ⟨x,0,none⟩
theorem Apart.none{H1:Heap}{a:O} :Apart H1 a 0:=fun h=>absurd rfl h
theorem Apart.grew{base:Nat}{H1 H H':Heap}{a a':O}{c c' nn:Nat}(h:Apart H1 a c)(e:Ext H1 H)(hg:Grew base H H' a c a' c' nn):Ext H1 H'/\Apart H1 a' c':=by
 refine⟨fun x k hx=>hg.keep x k (e x k hx) ?_,fun hc' x k hx ha'=> ?_⟩
 ·by_cases hc:c=0
  ·exact .inl hc
  ·exact .inr (h hc x k hx)
 ·rcases hg.place hc' x ha' with hn|⟨he,hc⟩
  ·rw[e x k hx] at hn;cases hn
  ·rw[he] at ha';exact h hc x k hx ha'
section
variable {H : Heap} (hL : Lb H)
include hL
theorem cLockPrint{a:O}{l c:Nat}{xs:List Pin}(hp:Pins H a l xs):Spec Tryz.prog 284 [.slice a l c] H fun v _=>v= .tuple #[str (if lockCheck xs=0 then lockText xs else []),i64 (lockCheck xs)]:=by
 refine TryzvcJ Tryz.func284 (by kernel_rfl) (by kernel_rfl) _ rfl (fun base K=>vd8 a l c base H K) fun base hb=> ?_
 have hl:=hp.len
 refine(cLockCheck hp).int1 fun H1 e1 hN1=>⟨fun h=> ?_,fun h=> ?_⟩
 ·rw[if_neg h];rfl
 have hz:=Decidable.not_not.1 h
 rw[if_pos hz,hz]
 have hlk:=(lockCheck_zero.1 hz).2
 refine⟨fun vs H'=>∃(a3:O)(c3 m:Nat),vs=[.slice a3 m c3,i64 m]/\m<=l/\Row base H' 9 1 a3 m c3 ((xs.take m).flatMap fun p=>[str (wordOf p)]),upTo l 1,⟨none,0,0,rfl,by omega,Row.nil⟩,fun a3 n3 c3 n H2 hN2 hI=> ?_⟩
 obtain⟨a3',c3',m,hvs,hm,hR⟩:=hI
 obtain⟨⟨rfl,rfl,rfl⟩,rfl⟩:(a3=a3'/\n3=m/\c3=c3')/\n=(m:Int):=by simpa using hvs
 refine⟨fun hlt=>hp.pin hN2.ext (by omega) hlt fun p hpp=> ?_,fun hge=> ?_⟩
 ·rw[Int.toNat_natCast] at hpp
  have hr:=pin_range hz (List.mem_of_getElem? hpp)
  have hi1:=itoa_short (n:=p.name) (by omega) (by omega)
  have hi2:=itoa_short (n:=p.ver) (by omega) (by omega)
  intro _
  refine(l_itoa (hL.ext hN2.ext) (by omega) (by omega)).str1 fun H3 e3 hN3=>⟨_,runs_add rfl (by simp only[List.length_append,List.length_cons,List.length_nil];omega),?_⟩
  refine(l_itoa (hL.ext (Ext.trans hN2.ext e3)) (by omega) (by omega)).str1 fun H4 e4 hN4=>⟨_,runs_add (c:=wordOf p) (by simp[wordOf]) (by simp only[List.length_append,List.length_cons,List.length_nil];omega),fun g H5 hN5 hg hH5=> ?_⟩
  refine⟨_,_,hR.ext (Ext.trans e3 (Ext.trans e4 hN5.ext)),rfl,rfl,.inr ⟨g,0,rfl,box_cells hH5⟩,by omega,by omega,fun a6 c6 H6 hG6 hR6=> ?_⟩
  rintro r rfl
  rw[wrap_in (by omega) (by omega)]
  refine⟨⟨a6,c6,n3+1,rfl,by omega,?_⟩,by simp[upTo];omega⟩
  rw[take_at hpp,List.flatMap_append]
  exact hR6
 ·obtain rfl:n3=l:=by omega
  rw[List.take_of_length_le (by omega)] at hR
  have hS:Sl RStr 1 H2 a3 n3 (xs.map wordOf):=by
   have hR':Row base H2 9 1 a3 n3 c3 ((xs.map wordOf).flatMap fun w=>[str w]):=by rw[List.flatMap_map];exact hR
   exact sl_of_rowE (enc:=fun w=>[str w]) (sz:=1) (fun _=>rfl) (by omega) hR'
  have hjl:(joinB 44 (xs.map wordOf)).length<=72:=lockText_len hz
  exact(l_join (b:=44) hS hR.2.1 (by omega) (by omega)).str1 fun H3 e3 hN3=>rfl
theorem cLockParse{s:ByteArray} :Spec Tryz.prog 228 [.string s] H fun v H'=>∃a n c,v= .tuple #[.slice a n c,i64 (if 60000<s.size then 2 else errOf (lockRead s.data.toList))]/\Fresh H H' 91 2 a n c ((if 60000<s.size then [] else okL (lockRead s.data.toList)).flatMap pinCells):=by
 refine TryzvcJ Tryz.func228 (by kernel_rfl) (by kernel_rfl) _ rfl (fun base K=>vd11 s base H K) fun base hb=> ?_
 refine⟨fun h=> ?_,fun h=> ?_⟩
 ·rw[if_pos (by omega),if_pos (by omega)];exact⟨none,0,0,rfl,Fresh.zero⟩
 rw[if_neg (by omega),if_neg (by omega)]
 have hsz:s.data.toList.length<=60000:=by rw[←size_data];omega
 refine⟨_,eqS,fun h0=> ?_,fun h0=> ?_⟩
 ·have h0:s.data.toList=[]:=by simpa using h0
  rw[h0];exact⟨none,0,0,rfl,Fresh.zero⟩
 have hne:s.data.toList≠[]:=by simpa using h0
 have hW:readWords s.data.toList=readPins (cuts 44 s.data.toList):=by rw[readWords,if_neg hne]
 generalize hws:cuts 44 s.data.toList=ws at hW
 have hwl:ws.length<=60001:=by have:=cuts_len 44 s.data.toList;rw[hws] at this;omega
 have hwm:∀w∈ws,w.length<=60000:=fun w hw=>by rw[←hws] at hw;have:=mem_cuts_len hw;omega
 refine(l_split hL (s:=s) (c:=44) (by omega)).mono fun v H1 e1 hv=> ?_
 obtain⟨g,N,hv,hS⟩:=hv
 rw[hws] at hS
 have hNl:=hS.len
 refine⟨_,_,_,hv,fun hN1=> ?_⟩
 refine⟨fun vs H'=>∃(a2:O)(n2 c2:Nat)(k:Int)(a3:O)(c3 m:Nat)(ps:List Pin),vs=[.slice a2 n2 c2,i64 k,.slice a3 m c3,i64 m]/\m<=N/\Row base H' 91 2 a3 m c3 (ps.flatMap pinCells)/\Ext H1 H'/\Apart H1 a3 c3/\
  readPins ws=(readPins (ws.drop m)).map (ps++ ·),upTo N 3,⟨none,0,0,0,none,0,0,[],rfl,by omega,Row.nil,Ext.refl _,Apart.none,by simp⟩,fun a2 n2 c2 k a3 n3 c3 n H2 hN2 hI=> ?_⟩
 obtain⟨a2',n2',c2',k',a3',c3',m,ps,hvs,hm,hR,hE,hA,hI⟩:=hI
 obtain⟨⟨rfl,rfl,rfl⟩,rfl,⟨rfl,rfl,rfl⟩,rfl⟩:(a2=a2'/\n2=n2'/\c2=c2')/\k=k'/\(a3=a3'/\n3=m/\c3=c3')/\n=(m:Int):=by simpa using hvs
 refine⟨fun hlt=>hS.str hE (by omega) hlt fun w hw=> ?_,fun hge=> ?_⟩
 ·rw[Int.toNat_natCast] at hw
  have hwz:=hwm w (List.mem_of_getElem? hw)
  rw[drop_at hw] at hI
  refine(l_cut (hL.ext hN2.ext) (s:=⟨w.toArray⟩) (sep:=⟨#[64]⟩) (by rw[size_mk];omega)).cut3 fun H3 e3 hN3=> ?_
  rw[data_mk,show(⟨#[64]⟩:ByteArray).data.toList=[64] from rfl]
  generalize hcut:Lib.cut w [64]=x
  have hxl:x.1.length<=60000/\x.2.1.length<=60000:=by
   rcases cut_cases 64 w with⟨_,e⟩|⟨u,t,rfl,_,e⟩
   ·rw[e] at hcut;subst hcut;exact⟨hwz,by simp⟩
   ·rw[e] at hcut;subst hcut;simp at hwz;exact⟨by simp;omega,by simp;omega⟩
  refine(cNumber (hL.ext (Ext.trans hN2.ext e3)) (s:=⟨x.1.toArray⟩) (by rw[size_mk];omega)).mono fun v H4 e4 hv4=> ?_
  obtain⟨n4,b4,hv4,ht4,hf4⟩:=hv4
  refine⟨n4,b4,hv4,fun hN4=> ?_⟩
  refine(cNumber (hL.ext (Ext.trans hN2.ext (Ext.trans e3 e4))) (s:=⟨x.2.1.toArray⟩) (by rw[size_mk];omega)).mono fun v H5 e5 hv5=> ?_
  obtain⟨n5,b5,hv5,ht5,hf5⟩:=hv5
  rw[data_mk] at ht4 hf4 ht5 hf5
  refine⟨n5,b5,hv5,fun hN5=> ?_⟩
  have hrd:readPin w=if x.2.2=true then(match num x.1,num x.2.1 with|some n,some v=>some ⟨n,v⟩|_,_=>none) else none:=by unfold readPin;rw[hcut];rfl
  refine⟨readPin w=none,⟨fun h1=>⟨fun _ _ h=>h,?_⟩,fun h1=>⟨fun h2=>⟨fun _ _ h=>h,?_⟩,fun h2=>⟨fun _ _ h=>h,?_⟩⟩⟩,fun hφ=> ?_,fun hφ=> ?_⟩
  ·rw[hrd,if_neg (by rw[h1];decide)]
  ·rw[hrd,hf4 h2];split<;>rfl
  ·have h1':x.2.2=true:=by simpa using h1
   have h2':b4=true:=by simpa using h2
   rw[hrd,if_pos h1',ht4 h2']
   cases hb5:b5 with
   |true=>rw[ht5 hb5];simp
   |false=>rw[hf5 hb5];simp
  ·rw[readPins_bad hφ,Option.map_none] at hI
   rw[lockRead_none (hW.trans hI)]
   exact⟨none,0,0,rfl,Fresh.zero⟩
  ·have hpin:readPin w=some ⟨n4,n5⟩:=by
    rw[hrd] at hφ⊢
    by_cases hx:x.2.2=true
    ·rw[if_pos hx] at hφ⊢
     cases hb4:b4 with
     |false=>rw[hf4 hb4] at hφ;exact absurd rfl hφ
     |true=>
      cases hb5:b5 with
      |false=>rw[ht4 hb4,hf5 hb5] at hφ;exact absurd rfl hφ
      |true=>rw[ht4 hb4,ht5 hb5]
    ·rw[if_neg hx] at hφ;exact absurd rfl hφ
   rw[readPins_cons hpin] at hI
   intro _
   refine⟨_,hR.ext (Ext.trans e3 (Ext.trans e4 e5)),by omega,by omega,fun a6 c6 H6 hG6 hR6=> ?_⟩
   rintro r rfl
   rw[wrap_in (by omega) (by omega)]
   obtain⟨hE6,hA6⟩:=hA.grew (Ext.trans hE (Ext.trans e3 (Ext.trans e4 e5))) hG6
   exact⟨⟨a2,n2,c2,k,a6,c6,n3+1,ps++[⟨n4,n5⟩],rfl,by omega,by rw[List.flatMap_append];exact hR6,hE6,hA6,by rw[hI];cases readPins (ws.drop (n3+1))<;>simp⟩,by simp[upTo];omega⟩
 ·have hmN:n3=N:=by omega
  subst hmN
  rw[List.drop_of_length_le (by omega),readPins,Option.map_some,List.append_nil] at hI
  rw[lockRead_some (hW.trans hI)]
  refine(cLockCheck (pins_of_row hR)).int1 fun H3 e3 hN3=>⟨fun h=> ?_,fun h=> ?_⟩
  ·rw[if_neg h];exact⟨none,0,0,rfl,Fresh.zero⟩
  ·have h:=Decidable.not_not.1 h
   rw[if_pos h]
   exact⟨a3,n3,c3,rfl,(hR.ext e3).fresh hb⟩
omit hL in
theorem extract_drop(s:ByteArray)(i:Nat):(s.extract i s.size).data.toList=s.data.toList.drop i:=by
 rw[ByteArray.data_extract,Array.toList_extract,List.extract_eq_take_drop,List.take_of_length_le (by simp)]
theorem cLockRead{s:ByteArray}(hsz:s.data.toList.length<=60000):Spec Tryz.prog 211 [.string s] H fun v H'=>∃a n c,v= .tuple #[.slice a n c,i64 (errOf (lockRead s.data.toList))]/\Fresh H H' 91 2 a n c ((okL (lockRead s.data.toList)).flatMap pinCells):=by
 refine TryzvcJ Tryz.func211 (by kernel_rfl) (by kernel_rfl) _ rfl (fun base K=>vd17 s base H K) fun base hb=> ?_
 have hss:s.size<=60000:=by rw[size_data];omega
 refine⟨_,neS,fun h0=> ?_,fun h0=> ?_⟩
 case refine_2=>
  have h0:s.data.toList=[]:=by simpa using h0
  rw[h0]
  refine(cRefLockCheck (Sl.nil:Pins H none 0 [])).int1 fun H3 e3 hN3=>⟨fun h=>absurd rfl h,fun h=>⟨none,0,0,rfl,Fresh.zero⟩⟩
 have hne:s.data.toList≠[]:=by simpa using h0
 have hW:readWords s.data.toList=readPins (cuts 44 s.data.toList):=by rw[readWords,if_neg hne]
 generalize hws:cuts 44 s.data.toList=ws at hW
 have hwl:ws.length<=60001:=by have:=cuts_len 44 s.data.toList;rw[hws] at this;omega
 have hwm:∀w∈ws,w.length<=60000:=fun w hw=>by rw[←hws] at hw;have:=mem_cuts_len hw;omega
 refine(l_split hL (s:=s) (c:=44) (by omega)).mono fun v H1 e1 hv=> ?_
 obtain⟨g,N,hv,hS⟩:=hv
 rw[hws] at hS
 have hNl:=hS.len
 refine⟨_,_,_,hv,fun hN1=> ?_⟩
 refine⟨fun vs H'=>∃(a2:O)(n2 c2:Nat)(k:Int)(a3:O)(c3 m:Nat)(ps:List Pin),vs=[.slice a2 n2 c2,i64 k,.slice a3 m c3,i64 m]/\m<=N/\Row base H' 91 2 a3 m c3 (ps.flatMap pinCells)/\Ext H1 H'/\Apart H1 a3 c3/\
  readPins ws=(readPins (ws.drop m)).map (ps++ ·),upTo N 3,⟨none,0,0,0,none,0,0,[],rfl,by omega,Row.nil,Ext.refl _,Apart.none,by simp⟩,fun a2 n2 c2 k a3 n3 c3 n H2 hN2 hI=> ?_⟩
 obtain⟨a2',n2',c2',k',a3',c3',m,ps,hvs,hm,hR,hE,hA,hI⟩:=hI
 obtain⟨⟨rfl,rfl,rfl⟩,rfl,⟨rfl,rfl,rfl⟩,rfl⟩:(a2=a2'/\n2=n2'/\c2=c2')/\k=k'/\(a3=a3'/\n3=m/\c3=c3')/\n=(m:Int):=by simpa using hvs
 refine⟨fun hlt=>hS.str hE (by omega) hlt fun w hw=> ?_,fun hge=> ?_⟩
 ·rw[Int.toNat_natCast] at hw
  have hwz:=hwm w (List.mem_of_getElem? hw)
  rw[drop_at hw] at hI
  refine(l_index (hL.ext hN2.ext) (s:=⟨w.toArray⟩) (sep:=⟨#[64]⟩) (by rw[size_mk];omega)).int1 fun H3 e3 hN3=> ?_
  rw[data_mk,show(⟨#[64]⟩:ByteArray).data.toList=[64] from rfl]
  rcases index_byte 64 w with⟨hno,hix⟩|⟨u,t,rfl,hu,hix⟩
  ·rw[hix]
   refine⟨fun _=> ?_,fun h=>absurd (by decide) h⟩
   have:readPin w=none:=by unfold readPin;rw[cut_miss hno];rfl
   rw[readPins_bad this,Option.map_none] at hI
   rw[lockRead_none (hW.trans hI)]
   exact⟨none,0,0,rfl,Fresh.zero⟩
  rw[hix]
  have hsz2:(⟨(u++64::t).toArray⟩:ByteArray).size=u.length+1+t.length:=by rw[size_mk];simp;omega
  simp at hwz
  refine⟨fun h=>by omega,fun _=>⟨by omega,by omega,?_⟩⟩
  have hx1:((⟨(u++64::t).toArray⟩:ByteArray).extract 0 (Int.toNat (u.length:Int))).data.toList=u:=by
   rw[Int.toNat_natCast,Lib.extract_from_zero,data_mk];simp
  have hz1:((⟨(u++64::t).toArray⟩:ByteArray).extract 0 (Int.toNat (u.length:Int))).size<=60000:=by rw[size_data,hx1];omega
  refine(cWhole (hL.ext (Ext.trans hN2.ext e3)) (s:=(⟨(u++64::t).toArray⟩:ByteArray).extract 0 (Int.toNat (u.length:Int))) (by omega)).mono fun v H4 e4 hv4=> ?_
  obtain⟨n4,b4,hv4,ht4,hf4⟩:=hv4
  refine⟨n4,b4,hv4,fun hN4=> ?_⟩
  rintro r rfl
  rw[wrap_in (by omega) (by omega)]
  refine⟨by omega,by omega,?_⟩
  have hx2:((⟨(u++64::t).toArray⟩:ByteArray).extract (Int.toNat ((u.length:Int)+1)) (⟨(u++64::t).toArray⟩:ByteArray).size).data.toList=t:=by
   rw[extract_drop,data_mk,show Int.toNat ((u.length:Int)+1)=u.length+1 from by omega,List.drop_append,List.drop_eq_nil_of_le (by omega)]
   simp
  have hz2:((⟨(u++64::t).toArray⟩:ByteArray).extract (Int.toNat ((u.length:Int)+1)) (⟨(u++64::t).toArray⟩:ByteArray).size).size<=60000:=by rw[size_data,hx2];omega
  refine(cWhole (hL.ext (Ext.trans hN2.ext (Ext.trans e3 e4))) (s:=(⟨(u++64::t).toArray⟩:ByteArray).extract (Int.toNat ((u.length:Int)+1)) (⟨(u++64::t).toArray⟩:ByteArray).size) (by omega)).mono fun v H5 e5 hv5=> ?_
  obtain⟨n5,b5,hv5,ht5,hf5⟩:=hv5
  rw[hx1] at ht4 hf4
  rw[hx2] at ht5 hf5
  refine⟨n5,b5,hv5,fun hN5=> ?_⟩
  have hrd:readPin (u++64::t)=match num u,num t with|some n,some v=>some ⟨n,v⟩|_,_=>none:=by unfold readPin;rw[cut_hit hu];rfl
  generalize u++64::t=w at*
  refine⟨readPin w=none,⟨fun h2=>⟨fun _ _ h=>h,?_⟩,fun h2=>⟨fun _ _ h=>h,?_⟩⟩,fun hφ=> ?_,fun hφ=> ?_⟩
  ·rw[hrd,hf4 h2]
  ·have h2':b4=true:=by simpa using h2
   rw[hrd,ht4 h2']
   cases hb5:b5 with
   |true=>rw[ht5 hb5];simp
   |false=>rw[hf5 hb5];simp
  ·rw[readPins_bad hφ,Option.map_none] at hI
   rw[lockRead_none (hW.trans hI)]
   exact⟨none,0,0,rfl,Fresh.zero⟩
  ·have hpin:readPin w=some ⟨n4,n5⟩:=by
    rw[hrd] at hφ⊢
    cases hb4:b4 with
    |false=>rw[hf4 hb4] at hφ;exact absurd rfl hφ
    |true=>
     cases hb5:b5 with
     |false=>rw[ht4 hb4,hf5 hb5] at hφ;exact absurd rfl hφ
     |true=>rw[ht4 hb4,ht5 hb5]
   rw[readPins_cons hpin] at hI
   intro _
   refine⟨_,hR.ext (Ext.trans e3 (Ext.trans e4 e5)),by omega,by omega,fun a6 c6 H6 hG6 hR6=> ?_⟩
   rintro r rfl
   rw[wrap_in (by omega) (by omega)]
   obtain⟨hE6,hA6⟩:=hA.grew (Ext.trans hE (Ext.trans e3 (Ext.trans e4 e5))) hG6
   exact⟨⟨a2,n2,c2,k,a6,c6,n3+1,ps++[⟨n4,n5⟩],rfl,by omega,by rw[List.flatMap_append];exact hR6,hE6,hA6,by rw[hI];cases readPins (ws.drop (n3+1))<;>simp⟩,by simp[upTo];omega⟩
 ·have hmN:n3=N:=by omega
  subst hmN
  rw[List.drop_of_length_le (by omega),readPins,Option.map_some,List.append_nil] at hI
  rw[lockRead_some (hW.trans hI)]
  refine(cRefLockCheck (pins_of_row hR)).int1 fun H3 e3 hN3=>⟨fun h=> ?_,fun h=> ?_⟩
  ·rw[if_neg h];exact⟨none,0,0,rfl,Fresh.zero⟩
  ·have h:=Decidable.not_not.1 h
   rw[if_pos h]
   exact⟨a3,n3,c3,rfl,(hR.ext e3).fresh hb⟩
end
open Go Go.Proofs
theorem errOf_zero{s:List UInt8}(h:errOf (lockRead s)=0):∃l,lockRead s= .ok l:=by
 cases hr:lockRead s with
 |ok l=>exact⟨l,rfl⟩
 |error e=>rw[hr] at h;exact absurd h (lockRead_err hr)
open Go Go.Proofs
theorem subH{H:Heap} :SubH H H:=fun _ _ h=>h
def numText(l:List Int):List UInt8:=l.flatMap fun n=>Lib.itoa n++[32]
theorem numText_snoc{l:List Int}{n:Int} :numText (l++[n])=numText l++(Lib.itoa n++[32]):=by simp[numText]
theorem numText_len:∀ {l:List Int},(∀n∈l,0<=n/\n<=200)->(numText l).length<=l.length*4
 | [],_=>by simp[numText]
 |n::r,h=>by
  have h1:=h n (by simp)
  have h2:=itoa_short3 (n:=n) h1.1 (by omega)
  have h3:=numText_len (l:=r) fun m hm=>h m (by simp[hm])
  have e:numText (n::r)=(Lib.itoa n++[32])++numText r:=rfl
  rw[e]
  simp only[List.length_append,List.length_cons,List.length_nil,Nat.succ_mul]
  omega
theorem recText_eq(r:Recd):recText r=numText (recNums r)++61::lockText r.rel.lock:=rfl
section
variable {H : Heap} (hL : Lb H)
include hL
theorem cNotePrint{a:O}{l c:Nat}{r:Recd}(hp:Pins H a l r.rel.lock):Spec Tryz.prog 265 [recArg r a l c] H fun v _=>v= .tuple #[str (if recErr r=0 then recText r else []),i64 (recErr r)]:=by
 obtain⟨kd,ag,tr,n,gd,⟨id,lock⟩⟩:=r
 have hp:Pins H a l lock:=hp
 refine TryzvcJ Tryz.func265 (by kernel_rfl) (by kernel_rfl) _ rfl (fun base K=>vd18 kd ag tr n id gd a l c base H K) fun base hb=> ?_
 intro _
 refine(cRecCheck (r:=⟨kd,ag,tr,n,gd,⟨id,lock⟩⟩) hp).int1 fun H1 e1 hN1=>⟨fun h=> ?_,fun h=> ?_⟩
 ·rw[if_neg h];rfl
 have hz:=Decidable.not_not.1 h
 rw[if_pos hz,hz]
 have hnn:=recErr_nums hz
 have hlk:=recErr_lock hz
 cases gd with
 |true=>
  refine⟨fun _=> ?_,fun h=>(by cases h)⟩
  intro b
  generalize hrn:recNums ⟨kd,ag,tr,n,true,⟨id,lock⟩⟩=ns at hnn
  have hnl:ns.length=6:=by rw[←hrn];rfl
  have hget:∀(m:Nat)(x:Int),ns[m]?=some x->([.int .i64 kd,.int .i64 ag,.int .i64 tr,.int .i64 n,.int .i64 1,.int .i64 id]:List Value)[m]?=some (.int .i64 x):=fun m x hx=>by
   have e:([.int .i64 kd,.int .i64 ag,.int .i64 tr,.int .i64 n,.int .i64 1,.int .i64 id]:List Value)=ns.map i64:=by rw[←hrn];rfl
   rw[e,List.getElem?_map,hx];rfl
  refine⟨fun vs H'=>∃(m:Nat)(p:O)(a3:O)(c3:Nat),vs=[i64 m,.agg #[.pointer p,.slice a3 (numText (ns.take m)).length c3]]/\m<=6/\(p=none∨p=some ⟨b,0,none⟩)/\Row base H' 5 1 a3 (numText (ns.take m)).length c3 (u8s (numText (ns.take m))),upTo 6 0,
   ⟨0,none,none,0,rfl,by omega,.inl rfl,Row.nil⟩,fun n2 v a3 n3 c3 H2 hN2 hI=> ?_⟩
  obtain⟨m,p,a3',c3',hvs,hm,hpp,hR⟩:=hI
  obtain⟨rfl,rfl,rfl,rfl,rfl⟩:n2=(m:Int)/\v= .pointer p/\a3=a3'/\n3=(numText (ns.take m)).length/\c3=c3':=by simpa using hvs
  have hlen:=numText_len (l:=ns.take m) fun x hx=>hnn x (List.mem_of_mem_take hx)
  have htl:(ns.take m).length<=6:=by rw[List.length_take];omega
  refine⟨fun hlt=>⟨by omega,hlt,?_⟩,fun hge=> ?_⟩
  ·have hmn:m<ns.length:=by omega
   have hx:ns[m]?=some ns[m]:=List.getElem?_eq_getElem hmn
   generalize ns[m]=x at hx
   have hxr:=hnn x (List.mem_of_getElem? hx)
   have hxl:=itoa_short3 (n:=x) hxr.1 (by omega)
   refine⟨x,by rw[Int.toNat_natCast,Nat.mul_one];exact hget m x hx,(l_itoa (hL.ext hN2.ext) (by omega) (by omega)).str1 fun H3 e3 hN3=>⟨_,runs_add rfl (by simp only[List.length_cons,List.length_nil];omega),?_⟩⟩
   refine(cCopyCheck (v:= .slice a3 (numText (ns.take m)).length c3) hpp).mono fun r css H4 e4 hq=> ?_
   obtain⟨rfl,rfl,rfl⟩:=hq
   refine⟨rfl,_,_,_,_,rfl,fun hN4=>⟨_,hR.ext e3,by rw[size_mk];simp only[List.length_append,List.length_cons,List.length_nil];omega,fun a6 c6 H6 hG6 hR6=> ?_⟩⟩
   rintro r rfl
   rw[wrap_in (by omega) (by omega)]
   have e6:numText (ns.take (m+1))=numText (ns.take m)++(Lib.itoa x++[32]):=by rw[take_at hx,numText_snoc]
   have e7:(numText (ns.take (m+1))).length=(numText (ns.take m)).length+(⟨(Lib.itoa x++[32]).toArray⟩:ByteArray).size:=by rw[e6,List.length_append];rfl
   refine⟨rfl,⟨m+1,some ⟨b,0,none⟩,a6,c6,by rw[e7];rfl,by omega,.inr rfl,?_⟩,by simp[upTo];omega⟩
   rw[e7,e6]
   have e8:u8s (numText (ns.take m)++(Lib.itoa x++[32]))=u8s (numText (ns.take m))++u8s (⟨(Lib.itoa x++[32]).toArray⟩:ByteArray).data.toList:=by rw[data_mk];simp[u8s]
   rw[e8]
   exact hR6
  ·obtain rfl:m=6:=by omega
   rw[List.take_of_length_le (by omega)] at hlen hR⊢
   have hll:(lockText lock).length<=72:=lockText_len hlk
   refine(cLockPrint (hL.ext hN2.ext) (hp.ext' hN2.ext)).strE fun H3 e3 hN3=>⟨rfl,?_,numText ns,hR.ext e3,fun H4 _ _=> ?_⟩
   ·have:numText ns≠[]:=by
     intro e
     cases ns with
     |nil=>simp at hnl
     |cons x t=>unfold numText at e;simp at e
    exact List.length_pos_iff.2 this
   ·rw[if_pos hlk,hlk]
    exact⟨_,runs_add rfl (by simp only[List.length_cons,List.length_nil];omega),_,runs_add (c:=recText ⟨kd,ag,tr,n,true,⟨id,lock⟩⟩) (by rw[recText_eq,hrn];simp) (by simp only[List.length_append,List.length_cons,List.length_nil];omega),rfl⟩
 |false=>
  refine⟨fun h=>(by cases h),fun _=> ?_⟩
  intro b
  generalize hrn:recNums ⟨kd,ag,tr,n,false,⟨id,lock⟩⟩=ns at hnn
  have hnl:ns.length=6:=by rw[←hrn];rfl
  have hget:∀(m:Nat)(x:Int),ns[m]?=some x->([.int .i64 kd,.int .i64 ag,.int .i64 tr,.int .i64 n,.int .i64 0,.int .i64 id]:List Value)[m]?=some (.int .i64 x):=fun m x hx=>by
   have e:([.int .i64 kd,.int .i64 ag,.int .i64 tr,.int .i64 n,.int .i64 0,.int .i64 id]:List Value)=ns.map i64:=by rw[←hrn];rfl
   rw[e,List.getElem?_map,hx];rfl
  refine⟨fun vs H'=>∃(m:Nat)(p:O)(a3:O)(c3:Nat),vs=[i64 m,.agg #[.pointer p,.slice a3 (numText (ns.take m)).length c3]]/\m<=6/\(p=none∨p=some ⟨b,0,none⟩)/\Row base H' 5 1 a3 (numText (ns.take m)).length c3 (u8s (numText (ns.take m))),upTo 6 0,
   ⟨0,none,none,0,rfl,by omega,.inl rfl,Row.nil⟩,fun n2 v a3 n3 c3 H2 hN2 hI=> ?_⟩
  obtain⟨m,p,a3',c3',hvs,hm,hpp,hR⟩:=hI
  obtain⟨rfl,rfl,rfl,rfl,rfl⟩:n2=(m:Int)/\v= .pointer p/\a3=a3'/\n3=(numText (ns.take m)).length/\c3=c3':=by simpa using hvs
  have hlen:=numText_len (l:=ns.take m) fun x hx=>hnn x (List.mem_of_mem_take hx)
  have htl:(ns.take m).length<=6:=by rw[List.length_take];omega
  refine⟨fun hlt=>⟨by omega,hlt,?_⟩,fun hge=> ?_⟩
  ·have hmn:m<ns.length:=by omega
   have hx:ns[m]?=some ns[m]:=List.getElem?_eq_getElem hmn
   generalize ns[m]=x at hx
   have hxr:=hnn x (List.mem_of_getElem? hx)
   have hxl:=itoa_short3 (n:=x) hxr.1 (by omega)
   refine⟨x,by rw[Int.toNat_natCast,Nat.mul_one];exact hget m x hx,(l_itoa (hL.ext hN2.ext) (by omega) (by omega)).str1 fun H3 e3 hN3=>⟨_,runs_add rfl (by simp only[List.length_cons,List.length_nil];omega),?_⟩⟩
   refine(cCopyCheck (v:= .slice a3 (numText (ns.take m)).length c3) hpp).mono fun r css H4 e4 hq=> ?_
   obtain⟨rfl,rfl,rfl⟩:=hq
   refine⟨rfl,_,_,_,_,rfl,fun hN4=>⟨_,hR.ext e3,by rw[size_mk];simp only[List.length_append,List.length_cons,List.length_nil];omega,fun a6 c6 H6 hG6 hR6=> ?_⟩⟩
   rintro r rfl
   rw[wrap_in (by omega) (by omega)]
   have e6:numText (ns.take (m+1))=numText (ns.take m)++(Lib.itoa x++[32]):=by rw[take_at hx,numText_snoc]
   have e7:(numText (ns.take (m+1))).length=(numText (ns.take m)).length+(⟨(Lib.itoa x++[32]).toArray⟩:ByteArray).size:=by rw[e6,List.length_append];rfl
   refine⟨rfl,⟨m+1,some ⟨b,0,none⟩,a6,c6,by rw[e7];rfl,by omega,.inr rfl,?_⟩,by simp[upTo];omega⟩
   rw[e7,e6]
   have e8:u8s (numText (ns.take m)++(Lib.itoa x++[32]))=u8s (numText (ns.take m))++u8s (⟨(Lib.itoa x++[32]).toArray⟩:ByteArray).data.toList:=by rw[data_mk];simp[u8s]
   rw[e8]
   exact hR6
  ·obtain rfl:m=6:=by omega
   rw[List.take_of_length_le (by omega)] at hlen hR⊢
   have hll:(lockText lock).length<=72:=lockText_len hlk
   refine(cLockPrint (hL.ext hN2.ext) (hp.ext' hN2.ext)).strE fun H3 e3 hN3=>⟨rfl,?_,numText ns,hR.ext e3,fun H4 _ _=> ?_⟩
   ·have:numText ns≠[]:=by
     intro e
     cases ns with
     |nil=>simp at hnl
     |cons x t=>unfold numText at e;simp at e
    exact List.length_pos_iff.2 this
   ·rw[if_pos hlk,hlk]
    exact⟨_,runs_add rfl (by simp only[List.length_cons,List.length_nil];omega),_,runs_add (c:=recText ⟨kd,ag,tr,n,false,⟨id,lock⟩⟩) (by rw[recText_eq,hrn];simp) (by simp only[List.length_append,List.length_cons,List.length_nil];omega),rfl⟩
end
open Go Go.Proofs
def rec0:Recd:=⟨0,0,0,0,false,⟨0,[]⟩⟩
def recGet(x:Except Int Recd):Recd:=match x with| .ok r=>r| .error _=>rec0
theorem nums_cons{w:List UInt8}{ws:List (List UInt8)}{n:Int}(h:num w=some n):nums (w::ws)=(nums ws).map (n:: ·):=by rw[nums,h]
theorem nums_bad{w:List UInt8}{ws:List (List UInt8)}(h:num w=none):nums (w::ws)=none:=by rw[nums,h]
def recFin(ns:Option (List Int))(w6:List UInt8):Except Int Recd:=
 if w6.head?=some 61 then
  (match ns with
   |some [k,a,tr,n,g,id]=>
    if g<0∨1<g then .error 1 else
    (match lockRead (w6.drop 1) with
    | .error e=> .error e
    | .ok l=>let r:Recd:=⟨k,a,tr,n,decide (g=1),⟨id,l⟩⟩
     if recErr r=0 then .ok r else .error (recErr r))
   |_=> .error 1)
 else .error 1
theorem recRead_len{s:List UInt8}(h:(cuts 32 s).length≠7):recRead s= .error 1:=by
 unfold recRead
 split
 ·rename_i hc
  rw[hc] at h;exact absurd rfl h
 ·rfl
theorem recRead_seven{s:List UInt8}{ws:List (List UInt8)}{w6:List UInt8}(hc:cuts 32 s=ws)(hl:ws.length=7)(h6:ws[6]?=some w6):recRead s=recFin (nums (ws.take 6)) w6:=by
 match ws,hl,h6 with
 | [v0,v1,v2,v3,v4,v5,v6],_,h6=>
  obtain rfl:v6=w6:=by simpa using h6
  unfold recRead
  rw[hc]
  rfl
theorem recFin_none{w:List UInt8} :recFin none w= .error 1:=by unfold recFin;split<;>rfl
theorem recFin_head{ns:Option (List Int)}{w:List UInt8}(h:¬w.head?=some 61):recFin ns w= .error 1:=by unfold recFin;rw[if_neg h]
theorem recFin_good{k a tr n g id:Int}{w:List UInt8}(h:w.head?=some 61)(hg:g<0∨1<g):recFin (some [k,a,tr,n,g,id]) w= .error 1:=by rw[recFin,if_pos h];dsimp only;rw[if_pos hg]
theorem recFin_lock{k a tr n g id:Int}{w:List UInt8}(h:w.head?=some 61)(hg:¬(g<0∨1<g)):recFin (some [k,a,tr,n,g,id]) w=match lockRead (w.drop 1) with
  | .error e=> .error e
  | .ok l=>if recErr ⟨k,a,tr,n,decide (g=1),⟨id,l⟩⟩=0 then .ok ⟨k,a,tr,n,decide (g=1),⟨id,l⟩⟩ else .error (recErr ⟨k,a,tr,n,decide (g=1),⟨id,l⟩⟩):=by
 rw[recFin,if_pos h];dsimp only;rw[if_neg hg]
theorem prefix61(w:List UInt8):Lib.hasPrefix w [61]=decide (w.head?=some 61):=by
 unfold Lib.hasPrefix
 cases w with
 |nil=>rfl
 |cons b r=>
  show((61:UInt8)==b&&List.isPrefixOf [] r)=_
  by_cases h:b=61
  ·subst h;simp
  ·simp[h,Ne.symm h]
theorem trim61{w:List UInt8}(h:w.head?=some 61):Lib.trimPrefix w [61]=w.drop 1:=by
 unfold Lib.trimPrefix
 rw[prefix61,h];rfl
theorem six{ns:List Int}(h:ns.length=6):∃k a tr n g id,ns=[k,a,tr,n,g,id]:=by
 match ns,h with
 | [k,a,tr,n,g,id],_=>exact⟨k,a,tr,n,g,id,rfl⟩
theorem take_set_next{α:Type}{cs:List α}{m:Nat}{v:α}(h:m<cs.length):(cs.set m v).take (m+1)=cs.take m++[v]:=by
 rw[take_at (x:=v) (by simp[h]),List.take_set_of_le (Nat.le_refl m)]
theorem Fresh.mv{H H1 H2 H3:Heap}{e:TypeId}{sz:Nat}{a:O}{n c:Nat}{cs:List Value}(h:Fresh H1 H2 e sz a n c cs)(e1:Ext H H1)(e2:Ext H2 H3):Fresh H H3 e sz a n c cs:=by
 obtain⟨h1,h2,h3,h4⟩:=h
 refine⟨h1,h2,h3,h4.imp id fun⟨g,k,q1,q2,q3,q4⟩=>⟨g,k,q1,?_,e2 _ _ q3,q4⟩⟩
 cases hg:H g with
 |none=>rfl
 |some k'=>rw[e1 g k' hg] at q2;cases q2
theorem neNilE{xo:Operand} :RunsTo Tryz.prog (binRun .neq 263 xo (.const .nilIface) .nilIface .nilIface) (.bool false):=by
 intro w
 have hu:=run_underlying Tryz.underlying263
 have hg:(eqGuard .neq 263 xo (.const .nilIface) .nilIface .nilIface).run Tryz.prog w= .ok () w:=by simp[eqGuard]
 have he:(Op.equalIn (9999+1) 263 .nilIface .nilIface).run Tryz.prog w= .ok true w:=by
  rw[Op.equalIn]
  simp only[Sem.run_bind,hu,Result.andThen_ok]
  rfl
 simp only[binRun,Sem.run_bind,hg,Result.andThen_ok]
 simp[binOp,Op.equal,show Op.maxDepth=9999+1 from rfl,he]
theorem neIfaceE{xo:Operand}{t:TypeId}{p:Value} :RunsTo Tryz.prog (binRun .neq 263 xo (.const .nilIface) (.iface t p) .nilIface) (.bool true):=by
 intro w
 have hu:=run_underlying Tryz.underlying263
 have hg:(eqGuard .neq 263 xo (.const .nilIface) (.iface t p) .nilIface).run Tryz.prog w= .ok () w:=by simp[eqGuard]
 have he:(Op.equalIn (9999+1) 263 (.iface t p) .nilIface).run Tryz.prog w= .ok false w:=by
  rw[Op.equalIn]
  simp only[Sem.run_bind,hu,Result.andThen_ok]
  rfl
 simp only[binRun,Sem.run_bind,hg,Result.andThen_ok]
 simp[binOp,Op.equal,show Op.maxDepth=9999+1 from rfl,he]
def RecOut(H:Heap)(x:Except Int Recd)(v:Value)(H':Heap):Prop:=
 ∃a n c,v= .tuple #[recArg (recGet x) a n c,i64 (errOf x)]/\Fresh H H' 91 2 a n c ((recGet x).rel.lock.flatMap pinCells)
theorem RecOut.bad{H H':Heap}{e:Int} :RecOut H (.error e) (.tuple #[.agg #[.int .i64 0,.int .i64 0,.int .i64 0,.int .i64 0,.bool false,.int .i64 0,.slice none 0 0],.int .i64 e]) H':=⟨none,0,0,rfl,Fresh.zero⟩
theorem cBadR{H1:Heap}{base:Nat}{e:Int}{K:Value->Heap->Prop}(hK:∀H',K (.tuple #[.agg #[.int .i64 0,.int .i64 0,.int .i64 0,.int .i64 0,.bool false,.int .i64 0,.slice none 0 0],.int .i64 e]) H'):
  Spec Tryz.prog 207 [.int .i64 e] H1 fun v H'=>∃(n n1 n2 n3:Int)(b:Bool)(n4:Int)(a:O)(m c:Nat)(n6:Int),v= .tuple #[.agg #[.int .i64 n,.int .i64 n1,.int .i64 n2,.int .i64 n3,.bool b,.int .i64 n4,.slice a m c],.int .i64 n6]/\
   (Vg.Next base H1 H'->K (.tuple #[.agg #[.int .i64 n,.int .i64 n1,.int .i64 n2,.int .i64 n3,.bool b,.int .i64 n4,.slice a m c],.int .i64 n6]) H'):=by
 refine TryzvcJ Tryz.func207 (by kernel_rfl) (by kernel_rfl) _ rfl (fun base K=>vd58 e base H1 K) fun base hb=>fun _=> ?_
 exact⟨0,0,0,0,false,0,none,0,0,e,rfl,fun _=>hK _⟩
section
variable {H : Heap} (hL : Lb H)
include hL
theorem cNoteParse{s:ByteArray} :Spec Tryz.prog 196 [.string s] H (RecOut H (if 60000<s.size then .error 2 else recRead s.data.toList)):=by
 refine TryzvcJ Tryz.func196 (by kernel_rfl) (by kernel_rfl) _ rfl (fun base K=>vd21 s base H K) fun base hb=> ?_
 refine fun b=>⟨fun h=> ?_,fun h=> ?_⟩
 ·rw[if_pos (by omega)];exact RecOut.bad
 rw[if_neg (by omega)]
 have hsz:s.data.toList.length<=60000:=by rw[←size_data];omega
 generalize hws:cuts 32 s.data.toList=ws
 have hwm:∀w∈ws,w.length<=60000:=fun w hw=>by rw[←hws] at hw;have:=mem_cuts_len hw;omega
 refine(l_split hL (s:=s) (c:=32) (by omega)).mono fun v H1 e1 hv=> ?_
 obtain⟨g,N,hv,hS⟩:=hv
 rw[hws] at hS
 have hNl:=hS.len
 refine⟨_,_,_,hv,fun hN1=>⟨fun h7=> ?_,fun h7=> ?_⟩⟩
 ·rw[recRead_len (by rw[hws];omega)];exact RecOut.bad
 obtain rfl:N=7:=by omega
 have h6l:ws[6]?=some ws[6]:=List.getElem?_eq_getElem (by omega)
 generalize ws[6]=w6 at h6l
 rw[recRead_seven hws hNl h6l]
 generalize hfw:ws.take 6=fw
 have hfl:fw.length=6:=by rw[←hfw,List.length_take];omega
 have hfg:∀(m:Nat) w,m<6->ws[m]?=some w->fw[m]?=some w:=fun m w hm hw=>by rw[←hfw,List.getElem?_take,if_pos hm];exact hw
 refine fun b1=>⟨rfl,fun vs H'=>∃(k:Int)(A:Value)(m:Nat)(ns:List Int)(cs:List Value),vs=[i64 k,i64 m,A,.agg cs.toArray]/\m<=6/\cs.length=6/\ns.length=m/\cs.take m=ns.map i64/\nums fw=(nums (fw.drop m)).map (ns++ ·)/\Ext H1 H',upTo 6 1,
  ⟨0,_,0,[],_,rfl,by omega,rfl,rfl,rfl,by simp,Ext.refl _⟩,fun n1 n2 n3 n4 n5 n6 b2 n7 a3 n8 c1 cs hcs H2 hN2 hI=> ?_⟩
 obtain⟨k',A',m,ns,cs',hvs,hm,_,hnl,hct,hI,hE⟩:=hI
 obtain⟨rfl,rfl,rfl,rfl⟩:n1=k'/\n2=(m:Int)/\_=A'/\cs=cs':=by simpa using hvs
 refine⟨fun hlt=>hS.str hE (by omega) (by omega) fun w hw=> ?_,fun hge=> ?_⟩
 ·rw[Int.toNat_natCast] at hw
  have hwz:=hwm w (List.mem_of_getElem? hw)
  have hmw:=hfg m w (by omega) hw
  rw[drop_at hmw] at hI
  refine(l_atoi (hL.ext hN2.ext) (s:=⟨w.toArray⟩) (by rw[size_mk];omega)).spec.mono fun v H3 e3 hv3=> ?_
  obtain⟨⟨n9,e9,hv3,h9⟩,_⟩:=hv3
  rw[data_mk] at h9
  rcases h9 with⟨hok,rfl⟩|⟨hno,t,p,rfl⟩
  ·have hbd:=Lib.atoiAll_bounds hok
   refine⟨n9,.inl ⟨hv3,fun hN3=>⟨false,neNilE,fun h=>(by cases h),fun _=>hS.str (Ext.trans hE e3) (by omega) (by omega) fun w' hw'=> ?_⟩⟩⟩
   rw[Int.toNat_natCast,hw] at hw'
   obtain rfl:=Option.some.inj hw'
   refine(l_itoa (hL.ext (Ext.trans hN2.ext e3)) hbd.1 hbd.2).str1 fun H4 e4 hN4=>⟨_,neS,fun h=> ?_,fun h=> ?_⟩
   ·rw[data_mk,data_mk] at h
    have h:¬Lib.itoa n9=w:=by simpa using h
    have hn:num w=none:=by rw[num,hok];simp[h]
    rw[nums_bad hn,Option.map_none] at hI
    rw[hI,recFin_none];exact RecOut.bad
   ·rw[data_mk,data_mk] at h
    have h:Lib.itoa n9=w:=by simpa using h
    have hn:num w=some n9:=by rw[num,hok];simp[h]
    rw[nums_cons hn] at hI
    refine⟨by omega,hlt,by rw[hcs,Int.toNat_natCast];omega,?_⟩
    rintro r rfl
    rw[wrap_in (by omega) (by omega)]
    rw[show 0+Int.toNat (m:Int)*1=m from by omega]
    refine⟨by simp[hcs],⟨n1,_,m+1,ns++[n9],cs.set m (.int .i64 n9),rfl,by omega,by simp[hcs],by simp[hnl],?_,by rw[hI];cases nums (fw.drop (m+1))<;>simp,Ext.trans hE (Ext.trans e3 e4)⟩,by simp[upTo];omega⟩
    rw[take_set_next (by omega),hct];simp
  ·refine⟨n9,.inr ⟨t,p,hv3,fun hN3=>⟨true,neIfaceE,fun _=> ?_,fun h=>absurd rfl h⟩⟩⟩
   have hn:num w=none:=by
    unfold num
    split
    ·rename_i v hv;exact absurd hv (hno v)
    ·rfl
   rw[nums_bad hn,Option.map_none] at hI
   rw[hI,recFin_none];exact RecOut.bad
 ·obtain rfl:m=6:=by omega
  rw[List.drop_of_length_le (by omega),nums,Option.map_some,List.append_nil] at hI
  obtain⟨k,ag,tr,n,gg,id,rfl⟩:=six hnl
  rw[List.take_of_length_le (by omega)] at hct
  subst hct
  rw[hI]
  have hw6:=hwm w6 (List.mem_of_getElem? h6l)
  refine hS.str (k:=6) hE (by omega) (by omega) fun w hw=> ?_
  obtain rfl:w6=w:=by rw[show Int.toNat 6=6 from rfl,h6l] at hw;exact Option.some.inj hw
  refine(l_cutPrefix (s:=⟨w6.toArray⟩) (p:=⟨#[61]⟩)).cut2 fun H3 e3 hN3=> ?_
  rw[data_mk,show(⟨#[61]⟩:ByteArray).data.toList=[61] from rfl,prefix61]
  refine⟨¬w6.head?=some 61∨gg<0∨1<gg,⟨fun hp=>⟨rfl,subH,.inl (by simpa using hp)⟩,fun hp=>⟨gg,rfl,fun h0=>⟨rfl,subH,.inr (.inl h0)⟩,fun h0=>⟨gg,rfl,rfl,subH,?_⟩⟩⟩,fun hφ=> ?_,fun hφ=> ?_⟩
  ·have hp:w6.head?=some 61:=by simpa using hp
   exact⟨fun h=>(h.resolve_left (fun x=>x hp)).resolve_left h0,fun h=> .inr (.inr h)⟩
  ·have:recFin (some [k,ag,tr,n,gg,id]) w6= .error 1:=by
    by_cases hp:w6.head?=some 61
    ·exact recFin_good hp (hφ.resolve_left (fun x=>x hp))
    ·exact recFin_head hp
   rw[this];exact RecOut.bad
  ·have hp:w6.head?=some 61:=Decidable.byContradiction fun x=>hφ (.inl x)
   have hg:¬(gg<0∨1<gg):=fun x=>hφ (.inr x)
   rw[recFin_lock hp hg,trim61 hp]
   have hdl:(w6.drop 1).length<=60000:=by rw[List.length_drop];omega
   refine(cLockParse (hL.ext (Ext.trans hN2.ext e3)) (s:=⟨(w6.drop 1).toArray⟩)).mono fun v H4 e4 hv4=> ?_
   obtain⟨a4,m4,c4,hv4,hF4⟩:=hv4
   rw[if_neg (by rw[size_mk];omega),data_mk] at hv4 hF4
   refine⟨a4,m4,c4,_,hv4,fun hN4=>⟨fun h=> ?_,fun h=> ?_⟩⟩
   ·cases hr:lockRead (w6.drop 1) with
    |ok l=>rw[hr] at h;exact absurd rfl h
    |error e=>exact RecOut.bad
   ·obtain⟨lk,hr⟩:=errOf_zero (Decidable.not_not.1 h)
    rw[hr] at hF4⊢
    dsimp only
    have hpn:=(pins_of_row (hF4.row hN4):Pins H4 a4 m4 lk)
    refine⟨k,rfl,ag,rfl,tr,rfl,n,rfl,gg,rfl,id,rfl,fun _=> ?_⟩
    refine(cRecCheck (r:=⟨k,ag,tr,n,decide (gg=1),⟨id,lk⟩⟩) hpn).int1 fun H5 e5 hN5=>⟨fun h5=> ?_,fun h5=> ?_⟩
    ·rw[if_neg h5];exact RecOut.bad
    ·rw[if_pos (Decidable.not_not.1 h5)]
     exact⟨a4,m4,c4,rfl,hF4.mv (Ext.trans hN2.ext e3) e5⟩
theorem cRecRead{s:ByteArray}(hsz:s.data.toList.length<=60000):Spec Tryz.prog 151 [.string s] H (RecOut H (recRead s.data.toList)):=by
 refine TryzvcJ Tryz.func151 (by kernel_rfl) (by kernel_rfl) _ rfl (fun base K=>vd29 s base H K) fun base hb=> ?_
 have hss:s.size<=60000:=by rw[size_data];omega
 intro b
 generalize hws:cuts 32 s.data.toList=ws
 have hwm:∀w∈ws,w.length<=60000:=fun w hw=>by rw[←hws] at hw;have:=mem_cuts_len hw;omega
 refine(l_split hL (s:=s) (c:=32) (by omega)).mono fun v H1 e1 hv=> ?_
 obtain⟨g,N,hv,hS⟩:=hv
 rw[hws] at hS
 have hNl:=hS.len
 refine⟨_,_,_,hv,fun hN1=> ?_⟩
 by_cases h7:N=7
 case neg=>
  rw[recRead_len (by rw[hws];omega)]
  exact⟨True,⟨fun _=>⟨rfl,subH,trivial⟩,fun h=>absurd (by omega) h⟩,fun _=>cBadR fun _=>RecOut.bad,fun h=>absurd trivial h⟩
 subst h7
 have h6l:ws[6]?=some ws[6]:=List.getElem?_eq_getElem (by omega)
 generalize ws[6]=w6 at h6l
 rw[recRead_seven hws hNl h6l]
 generalize hfw:ws.take 6=fw
 have hfl:fw.length=6:=by rw[←hfw,List.length_take];omega
 have hfg:∀(m:Nat) w,m<6->ws[m]?=some w->fw[m]?=some w:=fun m w hm hw=>by rw[←hfw,List.getElem?_take,if_pos hm];exact hw
 have hw6:=hwm w6 (List.mem_of_getElem? h6l)
 refine⟨¬w6.head?=some 61,⟨fun h=>absurd (by omega) h,fun _=>hS.str (k:=6) (Ext.refl _) (by omega) (by omega) fun w hw=> ?_⟩,fun hφ=> ?_,fun hφ=> ?_⟩
 ·obtain rfl:w6=w:=by rw[show Int.toNat 6=6 from rfl,h6l] at hw;exact Option.some.inj hw
  refine(l_prefix (s:=⟨w6.toArray⟩) (p:=⟨#[61]⟩)).bool1 fun H3 e3 hN3=>⟨rfl,e3,?_⟩
  rw[data_mk,show(⟨#[61]⟩:ByteArray).data.toList=[61] from rfl,prefix61]
  simp
 ·rw[recFin_head hφ];exact cBadR fun _=>RecOut.bad
 have hp:w6.head?=some 61:=Decidable.not_not.1 hφ
 refine⟨by decide,by omega,fun vs H'=>∃(k:Int)(A:Value)(m:Nat)(ns:List Int)(a3:O)(c3:Nat),vs=[i64 k,.slice a3 m c3,i64 m,A]/\m<=6/\Row base H' 3 1 a3 m c3 (ns.map i64)/\ns.length=m/\nums fw=(nums (fw.drop m)).map (ns++ ·)/\Ext H1 H'/\Apart H1 a3 c3,upTo 6 2,
  ⟨0,_,0,[],none,0,rfl,by omega,Row.nil,rfl,by simp,Ext.refl _,Apart.none⟩,fun n1 a3 n2 c3 n3 n4 n5 n6 n7 b2 n8 a4 n9 c4 H2 hN2 hI=> ?_⟩
 obtain⟨k',A',m,ns,a3',c3',hvs,hm,hR,hnl,hI,hE,hA⟩:=hI
 obtain⟨rfl,⟨rfl,rfl,rfl⟩,rfl,rfl⟩:n1=k'/\(a3=a3'/\n2=m/\c3=c3')/\n3=(m:Int)/\_=A':=by simpa using hvs
 refine⟨fun hlt=> ?_,fun hge=> ?_⟩
 ·have hmw7:n2<ws.length:=by omega
  have hw:ws[n2]?=some ws[n2]:=List.getElem?_eq_getElem hmw7
  generalize ws[n2]=w at hw
  have hwz:=hwm w (List.mem_of_getElem? hw)
  have hmw:=hfg n2 w (by omega) hw
  rw[drop_at hmw] at hI
  obtain⟨bb,o,ha,h0,h1,s',hc,hF⟩:=hS.str (k:=(n2:Int)) hE (by omega) (by omega) (F:=fun s=>s=⟨w.toArray⟩) (fun w' hw'=>by
   rw[Int.toNat_natCast,hw] at hw'
   obtain rfl:=Option.some.inj hw'
   rfl)
  subst hF
  refine⟨bb,o,ha,h0,hlt,_,hc,(cWhole (hL.ext hN2.ext) (s:=⟨w.toArray⟩) (by rw[size_mk];omega)).mono fun v H3 e3 hv3=> ?_⟩
  obtain⟨n10,b10,hv3,ht,hf⟩:=hv3
  rw[data_mk] at ht hf
  refine⟨n10,b10,hv3,fun hN3=>⟨fun h=> ?_,fun h=> ?_⟩⟩
  ·rw[nums_bad (hf h),Option.map_none] at hI
   rw[hI,recFin_none];exact cBadR fun _=>RecOut.bad
  ·have hn:=ht (by simpa using h)
   rw[nums_cons hn] at hI
   intro _
   refine⟨_,hR.ext e3,by omega,by omega,fun a6 c6 H6 hG6 hR6=> ?_⟩
   rintro r rfl
   rw[wrap_in (by omega) (by omega)]
   obtain⟨hE6,hA6⟩:=hA.grew (Ext.trans hE e3) hG6
   exact⟨⟨n1,_,n2+1,ns++[n10],a6,c6,rfl,by omega,by rw[List.map_append];exact hR6,by simp[hnl],by rw[hI];cases nums (fw.drop (n2+1))<;>simp,hE6,hA6⟩,by simp[upTo];omega⟩
 ·obtain rfl:n2=6:=by omega
  rw[List.drop_of_length_le (by omega),nums,Option.map_some,List.append_nil] at hI
  obtain⟨k,ag,tr,n,gg,id,rfl⟩:=six hnl
  rw[hI]
  have hSi:Sl RInt 1 H2 a3 6 [k,ag,tr,n,gg,id]:=ints_of_row hR
  refine hSi.int (Ext.refl _) (k:=4) (by omega) (by omega) fun x hx=> ?_
  obtain rfl:gg=x:=by simpa using hx
  refine(cIn _ _ _).bool1 fun H3 e3 hN3=>⟨fun h=> ?_,fun h=> ?_⟩
  ·have hg:gg<0∨1<gg:=by
    have:¬(0<=gg/\gg<=1):=by simpa[inR] using h
    omega
   rw[recFin_good hp hg];exact cBadR fun _=>RecOut.bad
  have hg:¬(gg<0∨1<gg):=by
   have:0<=gg/\gg<=1:=by simpa[inR] using h
   omega
  rw[recFin_lock hp hg]
  have hdl:(w6.drop 1).length<=60000:=by rw[List.length_drop];omega
  have hl1:1<=w6.length:=by
   cases w6 with
   |nil=>cases hp
   |cons x r=>simp
  refine hS.str (k:=6) (Ext.trans hE e3) (by omega) (by omega) fun w hw=> ?_
  obtain rfl:w6=w:=by rw[show Int.toNat 6=6 from rfl,h6l] at hw;exact Option.some.inj hw
  have hxd:((⟨w6.toArray⟩:ByteArray).extract 1 (⟨w6.toArray⟩:ByteArray).size).data.toList=w6.drop 1:=extract_drop _ 1
  refine⟨by decide,by rw[size_mk];omega,?_⟩
  refine(cLockRead (hL.ext (Ext.trans hN2.ext e3)) (s:=(⟨w6.toArray⟩:ByteArray).extract 1 (⟨w6.toArray⟩:ByteArray).size) (by rw[hxd];exact hdl)).mono fun v H4 e4 hv4=> ?_
  obtain⟨a5,m5,c5,hv4,hF4⟩:=hv4
  rw[hxd] at hv4 hF4
  refine⟨a5,m5,c5,_,hv4,fun hN4=>⟨fun h=> ?_,fun h=> ?_⟩⟩
  ·cases hr:lockRead (w6.drop 1) with
   |ok l=>rw[hr] at h;exact absurd rfl h
   |error e=>exact cBadR fun _=>RecOut.bad
  ·obtain⟨lk,hr⟩:=errOf_zero (Decidable.not_not.1 h)
   rw[hr] at hF4⊢
   dsimp only
   have hpn:=(pins_of_row (hF4.row hN4):Pins H4 a5 m5 lk)
   have e24:Ext H2 H4:=Ext.trans e3 e4
   refine hSi.int e24 (k:=0) (by omega) (by omega) fun x0 h0=> ?_
   refine hSi.int e24 (k:=1) (by omega) (by omega) fun x1 h1=> ?_
   refine hSi.int e24 (k:=2) (by omega) (by omega) fun x2 h2=> ?_
   refine hSi.int e24 (k:=3) (by omega) (by omega) fun x3 h3=> ?_
   refine hSi.int e24 (k:=4) (by omega) (by omega) fun x4 h4=> ?_
   refine hSi.int e24 (k:=5) (by omega) (by omega) fun x5 h5=> ?_
   obtain rfl:k=x0:=by simpa using h0
   obtain rfl:ag=x1:=by simpa using h1
   obtain rfl:tr=x2:=by simpa using h2
   obtain rfl:n=x3:=by simpa using h3
   obtain rfl:gg=x4:=by simpa using h4
   obtain rfl:id=x5:=by simpa using h5
   intro _
   refine(cRefRecCheck (r:=⟨k,ag,tr,n,decide (gg=1),⟨id,lk⟩⟩) hpn).int1 fun H5 e5 hN5=>⟨fun h5=> ?_,fun h5=> ?_⟩
   ·rw[if_neg h5];exact cBadR fun _=>RecOut.bad
   ·rw[if_pos (Decidable.not_not.1 h5)]
    exact⟨a5,m5,c5,rfl,hF4.mv (Ext.trans hN2.ext e3) e5⟩
end
open Go Go.Proofs
open Go Go.Proofs
def u8Cell(b:UInt8):List Value:=[.int .u8 b.toNat]
theorem u8Cell_len(b:UInt8):(u8Cell b).length=1:=rfl
theorem u8s_flat:∀l:List UInt8,u8s l=l.flatMap u8Cell
 | []=>rfl
 |x::r=>by
  have:=u8s_flat r
  unfold u8s at this⊢
  rw[List.map_cons,this];rfl
abbrev Bytes(H:Heap)(a:O)(n:Nat)(bs:List UInt8):Prop:=Sl (REnc u8Cell) 1 H a n bs
theorem Bytes.ext'{H H':Heap}{a:O}{n:Nat}{bs:List UInt8}(h:Bytes H a n bs)(e:Ext H H'):Bytes H' a n bs:=Sl.ext REnc.mono h e
theorem Bytes.conv{H H':Heap}{a:O}{n:Nat}{bs:List UInt8}(h:Bytes H a n bs)(e:Ext H H'):bs.length=n/\(n=0∨ ∃(b o:Nat),a=some ⟨b,o,none⟩/\cellsAt H' b o 0 (u8s bs)):=
 ⟨h.len,by rw[u8s_flat];exact(h.cells u8Cell_len e).2⟩
theorem Fresh.bytes{H H':Heap}{a:O}{n c:Nat}{bs:List UInt8}(h:Fresh H H' 5 1 a n c (bs.flatMap u8Cell)):Bytes (newOf H H') a n bs:=h.sl_new u8Cell_len (by omega)
theorem newOf_right{H H1 H2:Heap}(e:Ext H1 H2):Ext (newOf H H1) (newOf H H2):=fun x k h=>by
 have h1:=newOf_away x k h
 have h2:=newOf_ext x k h
 unfold newOf
 rw[h1]
 exact e x k h2
abbrev dskArg(sa:O)(sn sc:Nat)(wa:O)(wn wc:Nat):Value:= .agg #[.slice sa sn sc,.slice wa wn wc]
structure DskAt(H:Heap)(d:Dsk)(sa:O)(sn sc:Nat)(wa:O)(wn wc:Nat):Prop where
 safe:Bytes H sa sn d.safe
 wait:Bytes H wa wn d.wait
 sle:sn<=sc
 wle:wn<=wc
theorem DskAt.ext{H H':Heap}{d:Dsk}{sa wa:O}{sn sc wn wc:Nat}(h:DskAt H d sa sn sc wa wn wc)(e:Ext H H'):DskAt H' d sa sn sc wa wn wc:=⟨h.safe.ext' e,h.wait.ext' e,h.sle,h.wle⟩
theorem DskAt.zero{H:Heap} :DskAt H dsk0 none 0 0 none 0 0:=⟨Sl.nil,Sl.nil,by omega,by omega⟩
theorem cCloneB{H:Heap}{a:O}{l c:Nat}{xs:List UInt8}(hx:Bytes H a l xs)(hl:l<=100000):Spec Tryz.prog 169 [.slice a l c] H fun v H'=>∃a n c,v= .slice a n c/\Fresh H H' 5 1 a n c (xs.flatMap u8Cell):=by
 refine TryzvcJ Tryz.func169 (by kernel_rfl) (by kernel_rfl) _ rfl (fun base K=>vd61 a l c base H K) fun base hb=>⟨_,eqNil Tryz.underlying33,fun h=> ?_,fun h=> ?_⟩
 ·obtain rfl:a=none:=by cases a<;>simp at h⊢
  obtain⟨_,rfl⟩:=hx.addr_nil
  exact⟨none,0,0,rfl,Fresh.zero⟩
 ·intro g H1 hN1 _ hg
  obtain⟨h1,h2,h3⟩:=hx.copied u8Cell_len (fun _=>rfl) hN1.ext
  exact⟨[],_,Row.zero,h1,h2,h3,by omega,by omega,fun a3 c3 H3 hG hR=>⟨_,_,_,rfl,hR.fresh hb⟩⟩
theorem cGrowB{H:Heap}{k:Int}(h0:0<=k)(h1:k<=1000000):Spec Tryz.prog 152 [.slice none 0 0,.int .i64 k] H fun v H'=>∃a c,v= .slice a 0 c/\Fresh H H' 5 1 a 0 c []:=by
 refine TryzvcJ Tryz.func152 (by kernel_rfl) (by kernel_rfl) _ rfl (fun base K=>vd79 none 0 0 k base H K) fun base hb=> ?_
 refine⟨fun h=>by omega,fun _=>fun r hr=> ?_⟩
 obtain rfl:r=0:=by rw[hr,wrap_in (by omega) (by omega)];omega
 rintro r rfl
 rw[wrap_in (by omega) (by omega)]
 refine⟨fun h=>⟨by omega,by omega,[],k.toNat,by omega,by omega,by omega,Row.zero,by omega,by omega,fun g c' H1 hN hg hR=>⟨by omega,by omega,?_⟩⟩,fun h=>⟨none,0,rfl,Fresh.zero⟩⟩
 refine⟨_,_,rfl,?_⟩
 have:=hR.short (m:=0) (by omega)
 rw[Nat.zero_mul,List.take_zero] at this
 exact this.fresh hb
theorem sl_box_rows{α:Type}{R:Rep α}{sz:Nat}{H:Heap}{g:Nat}{ty:TypeId}{rs:List (List Value)}{xs:List α}{n:Nat}(h:H g=some (boxKB ty rs.flatten))(hw:∀r∈rs,r.length=sz)(ha:AllR R H rs xs)(hn:rs.length=n)(hle:(n:Int)<=9223372036854775807):Sl R sz H (some ⟨g,0,none⟩) n xs:=
 Sl.of_has (Has.of_box h rfl hw hn hle) ha.len fun i r x hr hx=>ha.get hr hx
theorem cConcatB{H:Heap}{a:O}{l c:Nat}{bss:List (List UInt8)}(hx:Sl (RSl (REnc u8Cell) 1) 1 H a l bss)(hl:l<=100)(hn:bss.flatten.length<=200000):Spec Tryz.prog 80 [.slice a l c] H fun v H'=>∃a n c,v= .slice a n c/\Fresh H H' 5 1 a n c (bss.flatten.flatMap u8Cell):=by
 refine TryzvcJ Tryz.func80 (by kernel_rfl) (by kernel_rfl) _ rfl (fun base K=>vd62 a l c base H K) fun base hb=> ?_
 have hbl:=hx.len
 have hpart:∀k,(bss.take k).flatten.length<=bss.flatten.length:=fun k=>by
  have:(bss.take k++bss.drop k).flatten.length=bss.flatten.length:=by rw[List.take_append_drop]
  rw[List.flatten_append,List.length_append] at this
  omega
 have hnext:∀k x,bss[k]?=some x->(bss.take (k+1)).flatten=(bss.take k).flatten++x:=fun k x h=>by
  rw[take_at h,List.flatten_append];simp
 refine⟨fun vs H'=>∃(k:Nat),vs=[i64 ((bss.take k).flatten.length:Nat),i64 k]/\k<=l,upTo l 1,⟨0,rfl,by omega⟩,fun n n1 H1 hN1 hI=> ?_⟩
 obtain⟨k,hvs,hk⟩:=hI
 obtain⟨rfl,rfl⟩:n=((bss.take k).flatten.length:Nat)/\n1=(k:Int):=by simpa using hvs
 refine⟨fun hlt=>hx.slice hN1.ext (by omega) hlt fun x a' n' c' hxk hS=> ?_,fun hge=> ?_⟩
 ·rw[Int.toNat_natCast] at hxk
  have h1:=hS.len
  have h2:=hpart (k+1)
  rw[hnext k x hxk,List.length_append] at h2
  rintro r rfl
  rw[wrap_in (by omega) (by omega)]
  refine⟨fun h=>by omega,fun _=> ?_⟩
  rintro r rfl
  rw[wrap_in (by omega) (by omega)]
  exact⟨⟨k+1,by rw[hnext k x hxk,List.length_append,h1];rfl,by omega⟩,by simp[upTo];omega⟩
 ·have h2:=hpart k
  refine(cGrowB (k:=((bss.take k).flatten.length:Nat)) (by omega) (by omega)).mono fun v H2 e2 hv=> ?_
  obtain⟨a2,c2,rfl,hF⟩:=hv
  refine⟨a2,0,c2,rfl,fun hN2=> ?_⟩
  have hap:∀ {g:Nat} {k:KB},H g=some k->c2≠0->a2≠some ⟨g,0,none⟩:=fun{g k} hg hc e=>by
   rcases hF.2.2.2 with⟨_,h⟩|⟨g',k',h1,h2,_⟩
   ·exact hc h
   ·rw[e] at h1;simp at h1;subst h1
    rw[hN1.ext _ _ hg] at h2;cases h2
  refine⟨fun vs H'=>∃(k:Nat)(a3:O)(c3:Nat),vs=[.slice a3 (bss.take k).flatten.length c3,i64 k]/\k<=l/\Row base H' 5 1 a3 (bss.take k).flatten.length c3 ((bss.take k).flatten.flatMap u8Cell),upTo l 1,
   ⟨0,a2,c2,rfl,by omega,hF.row hN2⟩,fun a3 n3 c3 n4 H3 hN3 hI=> ?_⟩
  obtain⟨k,a3',c3',hvs,hk,hR⟩:=hI
  obtain⟨⟨rfl,rfl,rfl⟩,rfl⟩:(a3=a3'/\n3=(bss.take k).flatten.length/\c3=c3')/\n4=(k:Int):=by simpa using hvs
  refine⟨fun hlt=>hx.slice hN3.ext (by omega) hlt fun x a' n' c' hxk hS=> ?_,fun hge=> ?_⟩
  ·rw[Int.toNat_natCast] at hxk
   have h1:=hS.len
   have h3:=hpart (k+1)
   rw[hnext k x hxk,List.length_append] at h3
   obtain⟨p1,p2,p3⟩:=hS.copied u8Cell_len (fun _=>rfl) hN3.ext
   refine⟨_,_,hR,p1,p2,p3,by omega,by omega,fun a5 c5 H5 hG5 hR5=> ?_⟩
   rintro r rfl
   rw[wrap_in (by omega) (by omega)]
   refine⟨⟨k+1,a5,c5,by rw[hnext k x hxk,List.length_append,h1];rfl,by omega,?_⟩,by simp[upTo];omega⟩
   rw[hnext k x hxk,List.length_append,h1,List.flatMap_append]
   exact hR5
  ·obtain rfl:k=l:=by omega
   rw[←hbl,List.take_length] at hR⊢
   exact⟨_,_,_,rfl,hR.fresh hb⟩
section
variable {H : Heap} (hL : Lb H)
include hL
theorem cLines{s:ByteArray}{most:Nat}(hs:s.size<=60000)(hm:most<=200):Spec Tryz.prog 143 [.string s,.int .i64 most] H fun v H'=>∃a n c G rows,v= .tuple #[.slice a n c,i64 (linesF most 0 s.data.toList).2.1,i64 (linesF most 0 s.data.toList).2.2]/\
  NewSl RRec 7 126 H G H' a n c rows (linesF most 0 s.data.toList).1:=by
 refine TryzvcJ Tryz.func143 (by kernel_rfl) (by kernel_rfl) _ rfl (fun base K=>vd63 s most base H K) fun base hb=> ?_
 have hsd:=size_data s
 generalize hS:s.data.toList=S at hsd
 have hse:s=⟨S.toArray⟩:=by rw[←hS]
 generalize hR:linesF most 0 S=R
 refine⟨fun vs H'=>∃(rest:List UInt8)(a:O)(n c:Nat)(n1 n2:Int)(a1:O)(n3 c1:Nat)(G:Heap)(rows:List (List Value))(xs:List Recd),vs=[.string ⟨rest.toArray⟩,.slice a n c,i64 n1,i64 n2,.slice a1 n3 c1]/\
   OwnSl RRec 7 126 base G H' a1 n3 c1 rows xs/\Away H G/\rest.length<=S.length/\n3<=most/\R=(xs++(linesF most n3 rest).1,(S.length-rest.length)+(linesF most n3 rest).2.1,(linesF most n3 rest).2.2),
  fun vs=>match vs with| .string s::_=>s.size|_=>0,
  ⟨S,none,0,0,0,0,none,0,0,fun _=>none,[],[],by rw[hse],OwnSl.zero (fun _ _ h=>by cases h),fun _ _ h=>(by cases h),Nat.le_refl _,by omega,by simp[←hR]⟩,fun s1 a n c n1 n2 a1 n3 c1 H1 hN1 hI=> ?_⟩
 obtain⟨rest,a',n',c',n1',n2',a1',n3',c1',G,rows,xs,hvs,hO,hAw,hrl,hn3,hRR⟩:=hI
 obtain⟨rfl,⟨rfl,rfl,rfl⟩,rfl,rfl,rfl,rfl,rfl⟩:s1=⟨rest.toArray⟩/\(a=a'/\n=n'/\c=c')/\n1=n1'/\n2=n2'/\a1=a1'/\n3=n3'/\c1=c1':=by simpa using hvs
 obtain⟨hrlen,hxlen⟩:=hO.rlen (by omega)
 refine⟨_,neS,fun h=> ?_,fun h=> ?_⟩
 ·have hne:rest≠[]:=by
   have h:=of_decide_eq_true h
   rwa[data_mk] at h
  have hc:=l_cut (hL.ext hN1.ext) (s:=⟨rest.toArray⟩) (sep:=⟨#[10]⟩) (by rw[size_mk];omega)
  rw[data_mk,show(⟨#[10]⟩:ByteArray).data.toList=[10] from rfl] at hc
  rcases cut_cases 10 rest with⟨hno,hcut⟩|⟨w,t,hrest,hw,hcut⟩
  ·rw[hcut] at hc
   rw[linesF_torn hno hne] at hRR
   refine hc.cut3 fun H2 e2 hN2=>⟨fun _=> ?_,fun h=>absurd rfl h⟩
   rintro r rfl
   rw[size_mk rest,hsd,wrap_in (by omega) (by omega)]
   subst hRR
   rw[show(S.length:Int)-rest.length=((S.length-rest.length:Nat):Int) from by omega]
   refine⟨a1,n3,c1,G,rows,rfl,?_⟩
   rw[List.append_nil];exact(hO.ext e2).new hb hAw
  ·rw[hcut] at hc
   have hwl:w.length+t.length+1=rest.length:=by rw[hrest];simp;omega
   refine hc.cut3 fun H2 e2 hN2=>⟨fun h=>(by cases h),fun _=> ?_⟩
   have hps:=cNoteParse (hL.ext (Ext.trans hN1.ext e2)) (s:=⟨w.toArray⟩)
   rw[if_neg (by rw[size_mk];omega),data_mk] at hps
   refine hps.mono fun v H3 e3 hv=> ?_
   obtain⟨a7,n7,c7,hv,hF⟩:=hv
   refine⟨_,_,_,_,_,_,a7,n7,c7,_,hv,fun hN3=>fun b1=>⟨fun h=> ?_,fun h=> ?_⟩⟩
   ·cases hr:recRead w with
    |ok r=>rw[hr] at h;exact absurd rfl h
    |error e=>
     rw[hrest,linesF_err hw hr,←hrest] at hRR
     rintro r rfl
     rw[size_mk rest,hsd,wrap_in (by omega) (by omega)]
     subst hRR
     rw[show(S.length:Int)-rest.length=((S.length-rest.length:Nat):Int) from by omega]
     refine⟨a1,n3,c1,G,rows,rfl,?_⟩
     rw[List.append_nil];exact(hO.ext (Ext.trans e2 e3)).new hb hAw
   ·cases hr:recRead w with
    |error e=>rw[hr] at h;exact absurd (Decidable.not_not.1 h) (recRead_err hr)
    |ok r=>
     rw[hr] at hF
     have hF:Fresh H2 H3 91 2 a7 n7 c7 (r.rel.lock.flatMap pinCells):=hF
     refine⟨fun hmost=> ?_,fun hmost=> ?_⟩
     ·have hmost:n3=most:=by omega
      rw[hrest,hmost,linesF_many hw hr,←hrest] at hRR
      rintro q rfl
      rw[size_mk rest,hsd,wrap_in (by omega) (by omega)]
      subst hRR
      rw[show(S.length:Int)-rest.length=((S.length-rest.length:Nat):Int) from by omega]
      refine⟨a1,n3,c1,G,rows,rfl,?_⟩
      rw[List.append_nil];exact(hO.ext (Ext.trans e2 e3)).new hb hAw
     ·have hmost:n3≠most:=by omega
      rw[hrest,linesF_more hw hr hmost] at hRR
      intro b2
      have hO3:=hO.grow RRec.mono (Ext.trans e2 e3)
      have hAw3:Away H (G.plus (newOf H1 H3)):=plus_away hAw (newOf_away.sub hN1.ext)
      have hP:Pins (G.plus (newOf H1 H3)) a7 n7 r.rel.lock:=Pins.ext' (hF.sl_new pinCells_len (by omega)) (Ext.trans (newOf_mono e2) (new_in_grow hO.sub))
      refine⟨_,hO3.row,by omega,by omega,fun a8 c8 H8 hG8 hR8=>⟨⟨t,a,n,c,n1,n2,a8,n3+1,c8,_,rows++[recVal r a7 n7 c7],xs++[r],rfl,?_,hAw3,by omega,by omega,?_⟩,?_⟩⟩
      ·refine hO3.grew hG8 ?_ (by intro q hq;simp at hq;subst hq;rfl) (AllR.one ⟨a7,n7,c7,rfl,hP⟩)
       rw[List.flatten_cons,List.flatten_nil,List.append_nil]
       exact hR8
      ·rw[hRR]
       simp only[List.append_assoc,List.singleton_append]
       congr 2
       rw[List.length_append,List.length_cons]
       omega
      ·show t.length<rest.length
       omega
 ·have hnil:rest=[]:=by
   have h:=fun e=>h (decide_eq_true e)
   rw[data_mk] at h
   exact Decidable.not_not.1 h
  subst hnil
  rw[linesF_nil] at hRR
  subst hRR
  refine⟨a1,n3,c1,G,rows,?_,?_⟩
  ·simp[hsd]
  ·rw[List.append_nil];exact hO.new hb hAw
end
open Go Go.Proofs
def dskGet:Except Int Dsk->Dsk
 | .ok d=>d
 | .error _=>dsk0
def DskOut(H:Heap)(x:Except Int Dsk)(v:Value)(H':Heap):Prop:=∃sa sn sc wa wn wc,v= .tuple #[dskArg sa sn sc wa wn wc,i64 (errOf x)]/\DskAt (newOf H H') (dskGet x) sa sn sc wa wn wc
theorem DskOut.bad{H H':Heap}{e:Int} :DskOut H (.error e) (.tuple #[.agg #[.slice none 0 0,.slice none 0 0],.int .i64 e]) H':=⟨none,0,0,none,0,0,rfl,DskAt.zero⟩
theorem newOf_both{H H1 H2 H3:Heap}(e:Ext H H1)(e':Ext H2 H3):Ext (newOf H1 H2) (newOf H H3):=Ext.trans (newOf_mono e) (newOf_right e')
theorem Fresh.le{H H':Heap}{e:TypeId}{sz:Nat}{a:O}{n c:Nat}{xs:List Value}(h:Fresh H H' e sz a n c xs):n<=c:=h.2.1
theorem Spec.dsk{P:Program}{f:FuncId}{args:List Value}{H:Heap}{x:Except Int Dsk}(h:Spec P f args H (DskOut H x)){base:Nat}{G:O->Nat->Nat->O->Nat->Nat->Int->Heap->Prop}
  (hG:∀sa sn sc wa wn wc H',Ext H H'->Vg.Next base H H'->DskAt (newOf H H') (dskGet x) sa sn sc wa wn wc->G sa sn sc wa wn wc (errOf x) H'):
  Spec P f args H fun v H'=>∃(sa:O)(sn sc:Nat)(wa:O)(wn wc:Nat)(e:Int),v= .tuple #[.agg #[.slice sa sn sc,.slice wa wn wc],.int .i64 e]/\(Vg.Next base H H'->G sa sn sc wa wn wc e H'):=
 h.mono fun v H' e ⟨sa,sn,sc,wa,wn,wc,hv,hD⟩=>⟨_,_,_,_,_,_,_,hv,fun hN=>hG _ _ _ _ _ _ H' e hN hD⟩
theorem putEnd{base:Nat}{H1 H3:Heap}{a:O}{m c:Nat}{cs:List UInt8}{g:Nat}(hR:Row base H3 5 1 a m c (cs.flatMap u8Cell))(hE:Ext H1 H3)(hA:Apart H1 a c)(hm:m<=200000)(hg:H3 g=some (boxKB 5 [Value.int IntKind.u8 10]))
  {K':O->Nat->Heap->Prop} (hK:∀a'' c'' H',Ext H1 H'->Apart H1 a'' c''->Row base H' 5 1 a'' (m+1) c'' ((cs++[10]).flatMap u8Cell)->K' a'' c'' H'):
  ∃(xs cells:List Value),Row base H3 5 1 a m c xs/\cells.length=1*1/\allOne cells=true/\(1=0∨ ∃(b o:Nat),(some ⟨g,0,none⟩:O)=some ⟨b,o,none⟩/\cellsAt H3 b o 0 cells)/\(m+1)*1<=140737488355328/\m+1<=9223372036854775807/\
   ∀(a'':O)(c'':Nat)(H':Heap),Grew base H3 H' a c a'' c'' (m+1)->Row base H' 5 1 a'' (m+1) c'' (xs++cells)->K' a'' c'' H':=by
 refine⟨_,[.int .u8 10],hR,rfl,rfl,.inr ⟨g,0,rfl,?_,trivial⟩,by omega,by omega,fun a'' c'' H' hG hR'=> ?_⟩
 ·unfold Heap.cell;rw[hg];rfl
 ·obtain⟨e1,e2⟩:=hA.grew hE hG
  refine hK a'' c'' H' e1 e2 ?_
  rw[List.flatMap_append]
  exact hR'
theorem putMid{base:Nat}{H1 Hc:Heap}{a:O}{n c:Nat}{bs text:List UInt8}{s:ByteArray}(hs:s.data.toList=text)(hz:s.size=text.length)(hR:Row base Hc 5 1 a n c (bs.flatMap u8Cell))(hE:Ext H1 Hc)(hA:Apart H1 a c)(hn:n+text.length<=200000)
  {K':O->Nat->Heap->Prop} (hK:∀a' c' H',Grew base Hc H' a c a' c' (n+s.size)->Ext H1 H'->Apart H1 a' c'->Row base H' 5 1 a' (n+s.size) c' ((bs++text).flatMap u8Cell)->K' a' c' H'):
  ∃(xs:List Value),Row base Hc 5 1 a n c xs/\n+s.size<=140737488355328/\∀(a':O)(c':Nat)(H':Heap),Grew base Hc H' a c a' c' (n+s.size)->Row base H' 5 1 a' (n+s.size) c' (xs++u8s s.data.toList)->K' a' c' H':=by
 refine⟨_,hR,by omega,fun a' c' H' hG hR'=> ?_⟩
 obtain⟨e1,e2⟩:=hA.grew hE hG
 refine hK a' c' H' hG e1 e2 ?_
 rw[List.flatMap_append,←hs,←u8s_flat s.data.toList]
 exact hR'
theorem rrec_one{H:Heap}{r:List Value}{m:Recd}(h:RRec H r m):allOne r=true:=by obtain⟨a,n,c,rfl,_⟩:=h;rfl
theorem apart_fresh{H1 H2:Heap}{e:TypeId}{sz:Nat}{a:O}{n c:Nat}{xs:List Value}(h:Fresh H1 H2 e sz a n c xs):Apart H1 a c:=fun hc x k hx ha=>by
 rcases h.2.2.2 with⟨_,h0⟩|⟨g,k',h1,h2,_⟩
 ·exact hc h0
 ·rw[ha] at h1;simp at h1;subst h1
  rw[hx] at h2;cases h2
theorem box_stays{base:Nat}{Hb Hg H' H2:Heap}{g:Nat}{kb:KB}{a a':O}{c c' nn:Nat}{e:TypeId}{sz n:Nat}{xs:List Value}(hR:Row base Hb e sz a n c xs)(hn:Hb g=none)(hg:Hg g=some kb)(hG:Grew base Hg H' a c a' c' nn):H' g=some kb:=by
 refine hG.keep g kb hg ?_
 rcases hR.2.2.2 with⟨_,h⟩|⟨g',k',h1,_,h2,_⟩
 ·exact .inl h
 ·right
  intro e
  rw[h1] at e
  simp at e
  subst e
  rw[hn] at h2;cases h2
theorem cJoin2{Hg:Heap}{g:Nat}{sa wa:O}{sn sc wn wc:Nat}{xs ys:List UInt8}(hg:Hg g=some (boxKB 33 [.slice sa sn sc,.slice wa wn wc]))(hx:Bytes Hg sa sn xs)(hy:Bytes Hg wa wn ys)(hn:xs.length+ys.length<=200000):
  Spec Tryz.prog 80 [.slice (some ⟨g,0,none⟩) 2 2] Hg fun v H'=>∃a n c,v= .slice a n c/\Fresh Hg H' 5 1 a n c ((xs++ys).flatMap u8Cell):=by
 have hS:Sl (RSl (REnc u8Cell) 1) 1 Hg (some ⟨g,0,none⟩) 2 [xs,ys]:=sl_box_rows (rs:=[[.slice sa sn sc],[.slice wa wn wc]]) hg (by simp) ⟨⟨sa,sn,sc,rfl,hx⟩,⟨wa,wn,wc,rfl,hy⟩,trivial⟩ rfl (by decide)
 have:=cConcatB (c:=2) hS (by omega) (by simp;omega)
 simpa using this
section
variable {H : Heap} (hL : Lb H)
include hL
theorem cDiskCheck{sa wa:O}{sn sc wn wc:Nat}{d:Dsk}(hd:DskAt H d sa sn sc wa wn wc):Spec Tryz.prog 142 [dskArg sa sn sc wa wn wc] H fun v _=>v=i64 (dskErr d):=by
 refine TryzvcJ Tryz.func142 (by kernel_rfl) (by kernel_rfl) _ rfl (fun base K=>vd60 sa wa sn sc wn wc base H K) fun base hb=>fun b=> ?_
 have hs:=hd.safe.len
 have hw:=hd.wait.len
 have h1:=hd.safe.le
 have h2:=hd.wait.le
 refine⟨(60000:Int)<sn∨(60000:Int)-sn<wn,⟨fun h=>⟨rfl,subH,.inl h⟩,fun h=> ?_⟩,fun h=> ?_,fun h=> ?_⟩
 ·rintro r rfl
  rw[wrap_in (by omega) (by omega)]
  exact⟨rfl,subH,⟨fun h'=>h'.resolve_left h,fun h'=> .inr h'⟩⟩
 ·unfold dskErr
  by_cases hc:60000<d.safe.length
  ·rw[if_pos hc]
  ·rw[if_neg hc,if_pos (by omega)]
 ·have e:dskErr d=(linesF 200 0 d.safe).2.2:=by
   unfold dskErr
   rw[if_neg (by omega),if_neg (by omega)]
  rw[e]
  refine⟨d.safe,hs,(hd.safe.conv (Ext.refl _)).2,?_⟩
  refine(cLines hL (s:=⟨d.safe.toArray⟩) (most:=200) (by rw[size_mk];omega) (by omega)).mono fun v H1 e1 hv=> ?_
  obtain⟨a,n,c,G,rows,hv,_⟩:=hv
  exact⟨a,n,c,_,_,hv,fun _=>rfl⟩
theorem cPut{sa wa ra:O}{sn sc wn wc rl rc:Nat}{d:Dsk}{r:Recd}(hd:DskAt H d sa sn sc wa wn wc)(hr:Pins H ra rl r.rel.lock):Spec Tryz.prog 243 [dskArg sa sn sc wa wn wc,recArg r ra rl rc] H (DskOut H (dskPut d r)):=by
 refine TryzvcJ Tryz.func243 (by kernel_rfl) (by kernel_rfl) _ rfl (fun base K=>vd32 sa wa sn sc wn wc r.kind r.agent r.try_ r.num r.rel.id r.good ra rl rc base H K) fun base hb=>fun b b' b''=> ?_
 refine(cDiskCheck hL hd).int1 fun H1 e1 hN1=>⟨fun h=> ?_,fun h=> ?_⟩
 ·rw[dskPut,if_neg h];exact DskOut.bad
 have h:=Decidable.not_not.1 h
 obtain⟨z1,z2,z3⟩:=dskErr_zero h
 have hs:=hd.safe.len
 have hw:=hd.wait.len
 refine(cNotePrint (hL.ext e1) (r:=r) (c:=rc) (hr.ext' e1)).strE fun H2 e2 hN2=>⟨fun h2=> ?_,fun h2=> ?_⟩
 ·rw[dskPut,if_pos h,if_neg h2];exact DskOut.bad
 have h2:=Decidable.not_not.1 h2
 rw[if_pos h2]
 have hlt:=recText_len h2
 rintro q rfl
 rw[size_mk,wrap_in (by omega) (by omega)]
 rintro q rfl
 rw[wrap_in (by omega) (by omega)]
 rintro q rfl
 rw[wrap_in (by omega) (by omega)]
 refine⟨fun h3=> ?_,fun h3=> ?_⟩
 ·rw[dskPut,if_pos h,if_pos h2,if_pos (by omega)];exact DskOut.bad
 have hout:dskPut d r= .ok ⟨d.safe,d.wait++(recText r++[10])⟩:=by rw[dskPut,if_pos h,if_pos h2,if_neg (by omega)]
 rw[hout]
 have e12:=Ext.trans e1 e2
 have fin:∀ {Ha Hb Hf:Heap} {a1:O} {n1 c1:Nat} {a2:O} {n2 c2:Nat},Ext H Ha->Fresh Ha Hb 5 1 a1 n1 c1 (d.safe.flatMap u8Cell)->Ext Hb Hf->Row base Hf 5 1 a2 n2 c2 ((d.wait++recText r++[10]).flatMap u8Cell)->
   DskOut H (.ok ⟨d.safe,d.wait++(recText r++[10])⟩) (.tuple #[.agg #[.slice a1 n1 c1,.slice a2 n2 c2],.int .i64 0]) Hf:=fun{Ha Hb Hf a1 n1 c1 a2 n2 c2} eA hF eF hR=>by
  have hR':=hR.fresh hb
  rw[List.append_assoc] at hR'
  exact⟨_,_,_,_,_,_,rfl,hF.bytes.ext' (newOf_both eA eF),hR'.bytes,hF.le,hR'.le⟩
 have hz:∀(l:List UInt8),(⟨l.toArray⟩:ByteArray).size=l.length:=size_mk
 have hd2:=hd.ext e12
 refine⟨?_,fun g Hg hNg hgn hg=> ?_⟩
 ·refine(cCloneB hd2.safe (by omega)).mono fun v H3 e3 hv=> ?_
  obtain⟨a1,n1,c1,rfl,hF1⟩:=hv
  refine⟨a1,n1,c1,rfl,fun hN3=>⟨?_,fun g Hg hNg hgn hg=> ?_⟩⟩
  ·refine(cCloneB (hd2.wait.ext' e3) (by omega)).mono fun v H4 e4 hv=> ?_
   obtain⟨a2,n2,c2,rfl,hF2⟩:=hv
   have hn2:n2=d.wait.length:=by have:=hF2.1;rw[flat_len u8Cell_len] at this;omega
   refine⟨a2,n2,c2,rfl,fun hN4=>⟨?_,fun g Hg hNg hgn hg=> ?_⟩⟩
   ·refine putMid (text:=recText r) (s:=⟨(recText r).toArray⟩) rfl rfl (hF2.row hN4) e4 (apart_fresh hF2) (by omega) fun a' c' H5 hG5 e5 hA5 hR5=>fun g H6 hN6 hgn hg=> ?_
    refine putEnd (hR5.ext hN6.ext) (Ext.trans e5 hN6.ext) hA5 (by rw[hz];omega) hg fun a'' c'' H7 e7 hA7 hR7=> ?_
    exact fin e12 hF1 e7 hR7
   ·refine putMid (text:=recText r) (s:=⟨(recText r).toArray⟩) rfl rfl ((hF2.row hN4).ext hNg.ext) (Ext.trans e4 hNg.ext) (apart_fresh hF2) (by omega) fun a' c' H5 hG5 e5 hA5 hR5=> ?_
    refine putEnd hR5 e5 hA5 (by rw[hz];omega) (box_stays (H2:=H4) (hF2.row hN4) hgn hg hG5) fun a'' c'' H7 e7 hA7 hR7=> ?_
    exact fin e12 hF1 e7 hR7
  ·refine(cCloneB ((hd2.wait.ext' e3).ext' hNg.ext) (by omega)).mono fun v H4 e4 hv=> ?_
   obtain⟨a2,n2,c2,rfl,hF2⟩:=hv
   have hn2:n2=d.wait.length:=by have:=hF2.1;rw[flat_len u8Cell_len] at this;omega
   refine⟨a2,n2,c2,rfl,fun hN4=> ?_⟩
   refine putMid (text:=recText r) (s:=⟨(recText r).toArray⟩) rfl rfl (hF2.row hN4) e4 (apart_fresh hF2) (by omega) fun a' c' H5 hG5 e5 hA5 hR5=> ?_
   refine putEnd hR5 e5 hA5 (by rw[hz];omega) (e5 _ _ hg) fun a'' c'' H7 e7 hA7 hR7=> ?_
   exact fin e12 hF1 (Ext.trans hNg.ext e7) hR7
 ·refine(cCloneB (hd2.safe.ext' hNg.ext) (by omega)).mono fun v H3 e3 hv=> ?_
  obtain⟨a1,n1,c1,rfl,hF1⟩:=hv
  refine⟨a1,n1,c1,rfl,fun hN3=> ?_⟩
  refine(cCloneB ((hd2.wait.ext' hNg.ext).ext' e3) (by omega)).mono fun v H4 e4 hv=> ?_
  obtain⟨a2,n2,c2,rfl,hF2⟩:=hv
  have hn2:n2=d.wait.length:=by have:=hF2.1;rw[flat_len u8Cell_len] at this;omega
  refine⟨a2,n2,c2,rfl,fun hN4=> ?_⟩
  refine putMid (text:=recText r) (s:=⟨(recText r).toArray⟩) rfl rfl (hF2.row hN4) e4 (apart_fresh hF2) (by omega) fun a' c' H5 hG5 e5 hA5 hR5=> ?_
  refine putEnd hR5 e5 hA5 (by rw[hz];omega) (e5 _ _ (e3 _ _ hg)) fun a'' c'' H7 e7 hA7 hR7=> ?_
  exact fin (Ext.trans e12 hNg.ext) hF1 e7 hR7
theorem cSync{sa wa:O}{sn sc wn wc:Nat}{d:Dsk}(hd:DskAt H d sa sn sc wa wn wc):Spec Tryz.prog 244 [dskArg sa sn sc wa wn wc] H (DskOut H (dskSync d)):=by
 refine TryzvcJ Tryz.func244 (by kernel_rfl) (by kernel_rfl) _ rfl (fun base K=>vd33 sa wa sn sc wn wc base H K) fun base hb=>fun b b'=> ?_
 refine(cDiskCheck hL hd).int1 fun H1 e1 hN1=>⟨fun h=> ?_,fun h=> ?_⟩
 ·rw[dskSync,if_neg h];exact DskOut.bad
 have h:=Decidable.not_not.1 h
 obtain⟨z1,z2,z3⟩:=dskErr_zero h
 intro g H2 hN2 hgn hg
 have hd2:=hd.ext (Ext.trans e1 hN2.ext)
 refine(cJoin2 hg hd2.safe hd2.wait (by omega)).mono fun v H3 e3 hv=> ?_
 obtain⟨a,n,c,rfl,hF⟩:=hv
 refine⟨a,n,c,rfl,fun hN3=>fun b3=> ?_⟩
 have eH:Ext H H3:=Ext.trans (Ext.trans e1 hN2.ext) e3
 have hD:DskAt (newOf H H3) ⟨d.safe++d.wait,[]⟩ a n c none 0 0:=⟨hF.bytes.ext' (newOf_mono (Ext.trans e1 hN2.ext)),Sl.nil,hF.le,by omega⟩
 refine(cDiskCheck (hL.ext eH) (hD.ext newOf_ext)).int1 fun H4 e4 hN4=>⟨fun h4=> ?_,fun h4=> ?_⟩
 ·rw[dskSync,if_pos h,if_neg h4];exact DskOut.bad
 ·have h4:=Decidable.not_not.1 h4
  rw[dskSync,if_pos h,if_pos h4]
  exact⟨_,_,_,_,_,_,rfl,hD.ext (newOf_right e4)⟩
theorem cRecover{sa wa:O}{sn sc wn wc:Nat}{d:Dsk}(hd:DskAt H d sa sn sc wa wn wc):Spec Tryz.prog 64 [dskArg sa sn sc wa wn wc] H fun v H'=>∃a1 n1 c1 a2 n2 c2 a3 n3 c3 G rows,v= .tuple #[dskArg a1 n1 c1 a2 n2 c2,.slice a3 n3 c3,i64 (dskErr d)]/\
  DskAt (newOf H H') (if dskErr d=0 then dskBack d else dsk0) a1 n1 c1 a2 n2 c2/\NewSl RRec 7 126 H G H' a3 n3 c3 rows (if dskErr d=0 then dskRecs d else []):=by
 refine TryzvcJ Tryz.func64 (by kernel_rfl) (by kernel_rfl) _ rfl (fun base K=>vd36 sa wa sn sc wn wc base H K) fun base hb=>fun b b'=> ?_
 refine(cDiskCheck hL hd).int1 fun H1 e1 hN1=>⟨fun h=> ?_,fun h=> ?_⟩
 ·rw[if_neg h,if_neg h]
  exact⟨none,0,0,none,0,0,none,0,0,fun _=>none,[],rfl,DskAt.zero,Fresh.zero,by simp,trivial,fun _ _ h=>(by cases h),fun h=>absurd rfl h,fun _ _ h=>(by cases h)⟩
 have h:=Decidable.not_not.1 h
 rw[if_pos h,if_pos h,h]
 obtain⟨z1,z2,z3⟩:=dskErr_zero h
 have hs:=hd.safe.len
 have hw:=hd.wait.len
 have hle:=hd.wle
 have hd1:=hd.ext e1
 refine⟨d.safe,hs,(hd1.safe.conv (Ext.refl _)).2,?_⟩
 refine(cLines (hL.ext e1) (s:=⟨d.safe.toArray⟩) (most:=200) (by rw[size_mk];omega) (by omega)).mono fun v H2 e2 hv=> ?_
 obtain⟨a3,n3,c3,G3,rows3,rfl,hS3⟩:=hv
 rw[data_mk] at hS3
 refine⟨a3,n3,c3,_,_,rfl,fun hN2=> ?_⟩
 obtain⟨i1,i2,i3,i4,i5⟩:=linesF_ok (most:=200) d.safe.length (s:=d.safe) (k:=0) (Nat.le_refl _) (by omega)
 have hO3:=hS3.own hN2
 obtain⟨hr3,hx3⟩:=hO3.rlen (by omega)
 have e12:=Ext.trans e1 e2
 have hd2:=hd.ext e12
 refine⟨d.wait,hw,(hd2.wait.conv (Ext.refl _)).2,?_⟩
 rintro r rfl
 rw[wrap_in (by omega) (by omega)]
 have hm:(200:Int)-n3=((200-n3:Nat):Int):=by omega
 rw[hm]
 refine(cLines (hL.ext e12) (s:=⟨d.wait.toArray⟩) (most:=200-n3) (by rw[size_mk];omega) (by omega)).mono fun v H3 e3 hv=> ?_
 obtain⟨a4,n4,c4,G4,rows4,rfl,hS4⟩:=hv
 rw[data_mk] at hS4⊢
 have hmore:linesF (200-n3) 0 d.wait=dskMore d:=by unfold dskMore;rw[←hx3]
 rw[hmore] at hS4⊢
 refine⟨a4,n4,c4,_,_,rfl,fun hN3=> ?_⟩
 have hO4:=hS4.own hN3
 obtain⟨hr4,hx4⟩:=hO4.rlen (by omega)
 have j:=linesF_ok (most:=200-(linesF 200 0 d.safe).1.length) d.wait.length (s:=d.wait) (k:=0) (Nat.le_refl _) (by omega)
 have j:(dskMore d).1.length<=200-(linesF 200 0 d.safe).1.length/\(dskMore d).2.1<=d.wait.length:=by
  obtain⟨_,j2,j3,_⟩:=j
  exact⟨by unfold dskMore;omega,j3⟩
 refine⟨by omega,by omega,fun g H4 hN4 hgn hg=> ?_⟩
 have e14:Ext H H4:=Ext.trans (Ext.trans e12 e3) hN4.ext
 have hd4:=hd.ext e14
 have hsub:Bytes H4 wa (dskMore d).2.1 (d.wait.take (dskMore d).2.1):=by
  have:=hd4.wait.sub (l:=0) (m:=(dskMore d).2.1) (a':=wa) (by omega) (fun _=>by cases wa<;>simp[Addr.add])
  rwa[List.drop_zero] at this
 rw[Int.toNat_natCast] at hg
 refine(cJoin2 hg hd4.safe hsub (by rw[List.length_take];omega)).mono fun v H5 e5 hv=> ?_
 obtain⟨a5,n5,c5,rfl,hF5⟩:=hv
 refine⟨a5,n5,c5,rfl,fun hN5=> ?_⟩
 have hO3':=(hO3.grow RRec.mono e3)
 have e35:Ext H3 H5:=Ext.trans hN4.ext e5
 have hA4:AllR RRec (G3.plus (newOf H2 H3)) rows4 (dskMore d).1:=(hS4.all_new RRec.mono).mono RRec.mono (new_in_grow hO3.sub)
 have hAw:Away H (G3.plus (newOf H2 H3)):=plus_away (hS3.away.sub e1) (newOf_away.sub e12)
 have hR4:=(hO4.row.ext e35)
 obtain⟨bl4,hc4⟩:rows4.flatten.length=n4*7/\(n4=0∨ ∃(b o:Nat),a4=some ⟨b,o,none⟩/\cellsAt H5 b o 0 rows4.flatten):=by
  refine⟨hR4.1,?_⟩
  rcases hR4.2.2.2 with⟨h0,_⟩|⟨g',k,h1,h2,h3,h4,h5,h6,h7⟩
  ·exact .inl h0
  ·exact .inr ⟨g',0,h1,cellsAt_of _ 0 fun j v hj=>by unfold Heap.cell;rw[h3];simpa using h7 j v hj⟩
 have hO5:=hO3'.ext e35
 refine⟨_,_,hO5.row,bl4,allOne_rows rrec_one hS4.all,hc4,by omega,by omega,fun a6 c6 H6 hG6 hR6=> ?_⟩
 have hO6:=hO5.grew hG6 hR6 hS4.wid hA4
 refine⟨a5,n5,c5,none,0,0,a6,n3+n4,c6,_,_,rfl,⟨hF5.bytes.ext' ?_,Sl.nil,hF5.le,by omega⟩,hO6.new hb hAw⟩
 intro x k hx
 have h1:=newOf_away x k hx
 have h2:=newOf_ext x k hx
 have hxa:c3=0∨a3≠some ⟨x,0,none⟩:=by
  by_cases hc:c3=0
  ·exact .inl hc
  ·right
   intro e
   obtain⟨g',k',q1,q2⟩:=hO3.block hc
   rw[e] at q1
   simp at q1
   subst q1
   rw[(Ext.trans e3 hN4.ext) _ _ q2] at h1;cases h1
 have hHx:H x=none:=by
  cases hq:H x with
  |none=>rfl
  |some k'=>rw[e14 x k' hq] at h1;cases h1
 unfold newOf
 rw[hHx]
 exact hG6.keep x k h2 hxa
end
open Go Go.Proofs
theorem TryzvcO{f:FuncId}{fn:Func}(hf: Tryz.prog.funcs[f]?=some fn)(hok:okFn fn=true){own:List Bx}{args:List SV}(hargs:Nat.ble args.length fn.ntmps=true)(hwf:∀s∈args,s.wf own.length){H:Heap}(Q:Value->List (List Value)->Heap->Prop)
  {F:Nat->(Value->List (List Value)->Heap->Prop)->Prop} (hv:∀base K,funV ⟨Tryz.prog,fn.ntmps,TryzMutsJ,base,H⟩ (bodyOf fn) fn.results.toList args own K=F base K)
  (h:∀base,(∀b k,H b=some k->b<base)->F base Q):SpecO Tryz.prog f (args.map (SV.val own)) own H Q:=
 specO_of (muts:= TryzMutsJ) (Tryzsum true) hf (body_some hok) rfl Tryzmixed (ops_ok hok) (Nat.le_of_ble_eq_true hargs) hwf fun base hb _=>by
  rw[hv base]
  exact h base hb
theorem cGrowR{H:Heap}{k:Int}(h0:0<=k)(h1:k<=1000000):Spec Tryz.prog 153 [.slice none 0 0,.int .i64 k] H fun v H'=>∃a c,v= .slice a 0 c/\Fresh H H' 126 7 a 0 c []:=by
 refine TryzvcJ Tryz.func153 (by kernel_rfl) (by kernel_rfl) _ rfl (fun base K=>vd64 none 0 0 k base H K) fun base hb=> ?_
 refine⟨fun h=>by omega,fun _=>fun r hr=> ?_⟩
 obtain rfl:r=0:=by rw[hr,wrap_in (by omega) (by omega)];omega
 rintro r rfl
 rw[wrap_in (by omega) (by omega)]
 refine⟨fun h=>⟨by omega,by omega,[],k.toNat,by omega,by omega,by omega,Row.zero,by omega,by omega,fun g c' H1 hN hg hR=>⟨by omega,by omega,?_⟩⟩,fun h=>⟨none,0,rfl,Fresh.zero⟩⟩
 refine⟨_,_,rfl,?_⟩
 have:=hR.short (m:=0) (by omega)
 rw[Nat.zero_mul,List.take_zero] at this
 exact this.fresh hb
theorem cConcatR{H:Heap}{a:O}{l c:Nat}{bss:List (List Recd)}(hx:Sl (RSl RRec 7) 1 H a l bss)(hl:l<=100)(hn:bss.flatten.length<=200000):Spec Tryz.prog 81 [.slice a l c] H fun v H'=>∃a n c,v= .slice a n c/\n<=c/\Recs H' a n bss.flatten:=by
 refine TryzvcJ Tryz.func81 (by kernel_rfl) (by kernel_rfl) _ rfl (fun base K=>vd38 a l c base H K) fun base hb=> ?_
 have hbl:=hx.len
 have hpart:∀k,(bss.take k).flatten.length<=bss.flatten.length:=fun k=>by
  have:(bss.take k++bss.drop k).flatten.length=bss.flatten.length:=by rw[List.take_append_drop]
  rw[List.flatten_append,List.length_append] at this
  omega
 have hnext:∀k x,bss[k]?=some x->(bss.take (k+1)).flatten=(bss.take k).flatten++x:=fun k x h=>by
  rw[take_at h,List.flatten_append];simp
 refine⟨fun vs H'=>∃(k:Nat),vs=[i64 ((bss.take k).flatten.length:Nat),i64 k]/\k<=l,upTo l 1,⟨0,rfl,by omega⟩,fun n n1 H1 hN1 hI=> ?_⟩
 obtain⟨k,hvs,hk⟩:=hI
 obtain⟨rfl,rfl⟩:n=((bss.take k).flatten.length:Nat)/\n1=(k:Int):=by simpa using hvs
 refine⟨fun hlt=>hx.slice hN1.ext (by omega) hlt fun x a' n' c' hxk hS=> ?_,fun hge=> ?_⟩
 ·rw[Int.toNat_natCast] at hxk
  have h1:=hS.len
  have h2:=hpart (k+1)
  rw[hnext k x hxk,List.length_append] at h2
  rintro r rfl
  rw[wrap_in (by omega) (by omega)]
  refine⟨fun h=>by omega,fun _=> ?_⟩
  rintro r rfl
  rw[wrap_in (by omega) (by omega)]
  exact⟨⟨k+1,by rw[hnext k x hxk,List.length_append,h1];rfl,by omega⟩,by simp[upTo];omega⟩
 ·have h2:=hpart k
  refine(cGrowR (k:=((bss.take k).flatten.length:Nat)) (by omega) (by omega)).mono fun v H2 e2 hv=> ?_
  obtain⟨a2,c2,rfl,hF⟩:=hv
  refine⟨a2,0,c2,rfl,fun hN2=> ?_⟩
  have hO:OwnSl RRec 7 126 base H H2 a2 0 c2 [] ([]:List Recd):=⟨hF.row hN2,by simp,trivial,Ext.trans hN1.ext e2,fun hc g hg=>by
   rcases hF.2.2.2 with⟨_,h⟩|⟨g',k',h1,h2,_⟩
   ·exact absurd h hc
   ·rw[hg] at h1;simp at h1;subst h1
    cases hq:H g with
    |none=>rfl
    |some kb=>rw[hN1.ext _ _ hq] at h2;cases h2⟩
  refine⟨fun vs H'=>∃(k:Nat)(a3:O)(n3 c3:Nat)(rows:List (List Value)),vs=[.slice a3 n3 c3,i64 k]/\k<=l/\OwnSl RRec 7 126 base H H' a3 n3 c3 rows (bss.take k).flatten,upTo l 1,
   ⟨0,a2,0,c2,[],rfl,by omega,hO⟩,fun a3 n3 c3 n4 H3 hN3 hI=> ?_⟩
  obtain⟨k,a3',n3',c3',rows,hvs,hk,hO3⟩:=hI
  obtain⟨⟨rfl,rfl,rfl⟩,rfl⟩:(a3=a3'/\n3=n3'/\c3=c3')/\n4=(k:Int):=by simpa using hvs
  obtain⟨r1,r2⟩:=hO3.rlen (by omega)
  refine⟨fun hlt=>hx.slice hN3.ext (by omega) hlt fun x a' n' c' hxk hS=> ?_,fun hge=> ?_⟩
  ·rw[Int.toNat_natCast] at hxk
   have h1:=hS.len
   have h3:=hpart (k+1)
   rw[hnext k x hxk,List.length_append] at h3
   obtain⟨rs,p1,p2,p3,p4⟩:=hS.rows RRec.len
   refine⟨_,_,hO3.row,p3,allOne_rows rrec_one p2,p4.imp id (fun⟨b,o,hb',hc⟩=>⟨b,o,hb',cellsAt_ext hN3.ext hc⟩),by omega,by omega,fun a5 c5 H5 hG5 hR5=> ?_⟩
   rintro r rfl
   rw[wrap_in (by omega) (by omega)]
   refine⟨⟨k+1,a5,_,c5,rows++rs,rfl,by omega,?_⟩,by simp[upTo];omega⟩
   rw[hnext k x hxk]
   exact hO3.grew hG5 hR5 p1 p2
  ·obtain rfl:k=l:=by omega
   rw[←hbl,List.take_length] at hO3
   exact⟨_,_,_,rfl,hO3.row.2.1,hO3.sl RRec.mono (by omega)⟩
open Go Go.Proofs
open Go Go.Proofs
open Go.Value renaming int → I, slice → S, bool → B, agg → A, tuple → T, pointer → P, string → Str
open Go.IntKind renaming i64 → Z, wrap → W
open Go.Addr renaming mk → D
open Go.Vg.Bx renaming mk → J
open Go.Vg renaming Next → X, Spec → Y, SpecO → YO
open Go.Vg.Heap renaming cell → C
open Int renaming toNat → N
theorem vz69(s t:ByteArray)(base:Nat)(H:Heap)(K:KT):
 (fV TryzMutsJ Tryz.f149 base H [.v (.string s),.v (.string t)] [] K)=(
 Y Tryz.prog 205 [Str s,Str t,I Z (↑(ByteArray.size t):Int),I Z (-1)] H fun a b=>∃c d e,a=S c d e/\(X base H b->K (S c d e) [] b)):=by kernel_rfl
theorem vz35(s:ByteArray)(most:Int)(base:Nat)(H:Heap)(K:KT):
 (fV TryzMutsJ Tryz.f79 base H [.v (.string s),.v (I Z most)] [] K)=(
 Y Tryz.prog 149 [Str s,Str (ByteArray.mk #[10])] H fun a b=>∃c d e,a=S c d e/\(X base H b->∃(g:LI)(h:LM),g [S none 0 0,I Z 0,I Z 0,S none 0 0,I Z 0,I Z 0] b/\∀(i:O)(j k:Nat)(l m:Int)(n:O)(o p:Nat)(q r:Int)(t:Heap),(fun w5:LV=>X base H t->g w5 t->(r<(d:Int)->∃u v,c=some (D u v none)/\0<=r/\r<(d:Int)/\∃w,C t u (v+N r*1)=some (Str w)/\∃x,RunsTo Tryz.prog (binRun BinOp.eql 9 (Operand.tmp 20) (Operand.const (Str (ByteArray.mk #[]))) (Str w) (Str (ByteArray.mk #[]))) (B x)/\(x=true->K (T #[S n o p,I Z q,I Z 0]) [] t)/\(¬x=true->Y Tryz.prog 150 [Str w,Str (ByteArray.mk #[10])] t fun y z=>∃a1,y=B a1/\(X base t z->(a1=false->K (T #[S n o p,I Z q,I Z 9]) [] z)/\(¬a1=false->∀b1:Int,b1=W Z ((↑(ByteArray.size w):Int)-1)->0<=b1/\b1<=(↑(ByteArray.size w):Int)/\Y Tryz.prog 151 [Str (ByteArray.extract w 0 (N b1))] z fun c1 d1=>∃e1 f1 g1 h1 i1 j1 k1 l1 m1 n1,c1=T #[A #[I Z e1,I Z f1,I Z g1,I Z h1,B i1,I Z j1,S k1 l1 m1],I Z n1]/\(X base z d1->∀o1:Nat,(fun w4:LB=>∃p1:Prop,((n1=0->w4=w4/\SubH d1 d1/\(p1↔most<=(o:Int)))/\(¬n1=0->w4=w4/\SubH d1 d1/\¬p1))/\(p1->(¬Int.ofNat 2=0->K (T #[S n o p,I Z q,I Z 2]) [] d1)/\(¬¬Int.ofNat 2=0->∀q1:Nat,∃r1:List Value,Row base d1 126 7 n o p r1/\(o+1)*72<=140737488355328/\o+1<=9223372036854775807/\∀(s1:O)(t1:Nat)(u1:Heap),Grew base d1 u1 n p s1 t1 (o+1)->Row base u1 126 7 s1 (o+1) t1 (r1++[I Z e1,I Z f1,I Z g1,I Z h1,B i1,I Z j1,S k1 l1 m1])->∀v1:Int,v1=W Z (q+(↑(ByteArray.size w):Int))->∀w1:Int,(fun w2:LV=>w1=W Z (r+1)->g w2 u1/\h w2<h w5) [S i j k,I Z l,I Z m,S s1 (o+1) t1,I Z v1,I Z w1]))/\(¬p1->(¬n1=0->K (T #[S n o p,I Z q,I Z n1]) [] d1)/\(¬¬n1=0->∀q1:Nat,∃r1:List Value,Row base d1 126 7 n o p r1/\(o+1)*72<=140737488355328/\o+1<=9223372036854775807/\∀(s1:O)(t1:Nat)(u1:Heap),Grew base d1 u1 n p s1 t1 (o+1)->Row base u1 126 7 s1 (o+1) t1 (r1++[I Z e1,I Z f1,I Z g1,I Z h1,B i1,I Z j1,S k1 l1 m1])->∀v1:Int,v1=W Z (q+(↑(ByteArray.size w):Int))->∀w1:Int,(fun w3:LV=>w1=W Z (r
 +1)->g w3 u1/\h w3<h w5) [S i j k,I Z l,I Z m,S s1 (o+1) t1,I Z v1,I Z w1]))) [J o1 false 126 [I Z e1,I Z f1,I Z g1,I Z h1,B i1,I Z j1,S k1 l1 m1]])))))/\(¬r<(d:Int)->K (T #[S n o p,I Z q,I Z 0]) [] t)) [S i j k,I Z l,I Z m,S n o p,I Z q,I Z r])):=by kernel_rfl
theorem vz10(a a':O)(l c l' c':Nat)(base:Nat)(H:Heap)(K:KT):
 (fV TryzMutsJ Tryz.f146 base H [.v (A #[S a l c,S a' l' c'])] [] K)=(
 ∀b:Nat,(fun w1:LB=>∃d:Prop,((60000<(l:Int)->w1=w1/\SubH H H/\d)/\(¬60000<(l:Int)->∀e:Int,e=W Z (60000-(l:Int))->w1=w1/\SubH H H/\(d↔e<(l':Int))))/\(d->K (I Z 2) [] H)/\(¬d->∃e:List UInt8,List.length e=l/\(l=0∨∃g h,a=some (D g h none)/\cellsAt H g h 0 (u8s e))/\Y Tryz.prog 79 [Str (ByteArray.mk (List.toArray e)),I Z 200] H fun g h=>∃i j k m n,g=T #[S i j k,I Z m,I Z n]/\(X base H h->K (I Z n) [] h))) [J b false 35 [S a l c,S a' l' c']]):=by kernel_rfl
theorem vz17(a a':O)(l c l' c':Nat)(base:Nat)(H:Heap)(K:KT):
 (fV TryzMutsJ Tryz.f23 base H [.v (A #[S a l c,S a' l' c'])] [] K)=(
 ∀b d:Nat,∃e:List UInt8,List.length e=l/\(l=0∨∃g h,a=some (D g h none)/\cellsAt H g h 0 (u8s e))/\Y Tryz.prog 79 [Str (ByteArray.mk (List.toArray e)),I Z 200] H fun g h=>∃i j k m n,g=T #[S i j k,I Z m,I Z n]/\(X base H h->∃o:List UInt8,List.length o=l'/\(l'=0∨∃p q,a'=some (D p q none)/\cellsAt h p q 0 (u8s o))/\∀p:Int,p=W Z (200-(j:Int))->Y Tryz.prog 79 [Str (ByteArray.mk (List.toArray o)),I Z p] h fun q r=>∃s t u v w,q=T #[S s t u,I Z v,I Z w]/\(X base h r->0<=v/\v<=(c':Int)/\(∀(x:Nat)(y:Heap),X base r y->r x=none->y x=some (boxKB 33 [S a l c,S a' (N v) c'])->(Y Tryz.prog 80 [S (some (D x 0 none)) 2 2] y fun z a1=>∃b1 c1 d1,z=S b1 c1 d1/\(X base y a1->∀(e1:Nat)(f1:Heap),X base a1 f1->a1 e1=none->f1 e1=some (boxKB 53 [S i j k,S s t u])->Y Tryz.prog 81 [S (some (D e1 0 none)) 2 2] f1 fun g1 h1=>∃i1 j1 k1,g1=S i1 j1 k1/\(X base f1 h1->K (T #[A #[S b1 c1 d1,S none 0 0],S i1 j1 k1]) [] h1)))/\∀(z:Nat)(a1:Heap),X base y a1->y z=none->a1 z=some (boxKB 53 [S i j k,S s t u])->Y Tryz.prog 80 [S (some (D x 0 none)) 2 2] a1 fun b1 c1=>∃d1 e1 f1,b1=S d1 e1 f1/\(X base a1 c1->Y Tryz.prog 81 [S (some (D z 0 none)) 2 2] c1 fun g1 h1=>∃i1 j1 k1,g1=S i1 j1 k1/\(X base c1 h1->K (T #[A #[S d1 e1 f1,S none 0 0],S i1 j1 k1]) [] h1)))/\∀(x:Nat)(y:Heap),X base r y->r x=none->y x=some (boxKB 53 [S i j k,S s t u])->∀(z:Nat)(a1:Heap),X base y a1->y z=none->a1 z=some (boxKB 33 [S a l c,S a' (N v) c'])->Y Tryz.prog 80 [S (some (D z 0 none)) 2 2] a1 fun b1 c1=>∃d1 e1 f1,b1=S d1 e1 f1/\(X base a1 c1->Y Tryz.prog 81 [S (some (D x 0 none)) 2 2] c1 fun g1 h1=>∃i1 j1 k1,g1=S i1 j1 k1/\(X base c1 h1->K (T #[A #[S d1 e1 f1,S none 0 0],S i1 j1 k1]) [] h1))))):=by kernel_rfl
open Go Go.Proofs Go.RowKit Go.Shelf
def cutsA(c:UInt8)(s:List UInt8):List (List UInt8):=Lib.splitK [c] 1 (s.count c) s
theorem cutsA_last{c:UInt8}{s:List UInt8}(h:c∉s):cutsA c s=[s]:=by
 unfold cutsA
 rw[List.count_eq_zero.2 h,Lib.splitK]
theorem cutsA_line{c:UInt8}{w t:List UInt8}(h:c∉w):cutsA c (w++c::t)=(w++[c])::cutsA c t:=by
 unfold cutsA
 have hc:(w++c::t).count c=t.count c+1:=by rw[List.count_append,List.count_eq_zero.2 h,List.count_cons_self];omega
 have hi:Lib.index (w++c::t) [c]=(w.length:Int):=by
  rcases index_byte c (w++c::t) with⟨h1,_⟩|⟨w',t',e,h2,h3⟩
  ·exact absurd (by simp) h1
  ·have:=cuts_more (t:=t) h
   rw[e,cuts_more h2] at this
   injection this with e1 e2
   rw[h3,e1]
 rw[hc,Lib.splitK,hi,if_neg (by simp)]
 have e1:((w.length:Int)).toNat=w.length:=by omega
 rw[e1,List.length_singleton]
 have e2:(w++c::t).take (w.length+1)=w++[c]:=by rw[show w++c::t=(w++[c])++t from by simp,List.take_append_of_le_length (by simp),List.take_of_length_le (by simp)]
 have e3:(w++c::t).drop (w.length+1)=t:=by
  rw[List.drop_append,List.drop_eq_nil_of_le (by omega)]
  simp
 rw[e2,e3]
theorem suffix_line{c:UInt8}{w:List UInt8} :Lib.hasSuffix (w++[c]) [c]=true:=by
 unfold Lib.hasSuffix
 rw[List.isSuffixOf_iff_suffix]
 exact⟨w,rfl⟩
theorem suffix_none{c:UInt8}{w:List UInt8}(h:c∉w):Lib.hasSuffix w [c]=false:=by
 unfold Lib.hasSuffix
 cases hs:List.isSuffixOf [c] w with
 |false=>rfl
 |true=>
  obtain⟨t,rfl⟩:=List.isSuffixOf_iff_suffix.1 hs
  exact absurd (by simp) h
section
variable {H : Heap} (hL : Lb H)
include hL
theorem l_genSplit{s:ByteArray}{c:UInt8}(hs:s.size<4294967281):Spec Tryz.prog 205 [.string s,.string ⟨#[c]⟩,.int .i64 1,.int .i64 (-1)] H fun v H'=>
  ∃(g n:Nat),v= .slice (some ⟨g,0,none⟩) n n/\Sl RStr 1 H' (some ⟨g,0,none⟩) n (cutsA c s.data.toList):=fun w hw hb=>by
 obtain⟨m,hm⟩:=hL.max
 have one:1<=(⟨#[c]⟩:ByteArray).size:=Nat.le_refl 1
 have hcall:=Any.strings_genSplit { Tryz.lays146 with } (by kernel_rfl) s ⟨#[c]⟩ 1 (-1) (Lib.countB s ⟨#[c]⟩+1) m w hs (hw.cell hm) one one (by decide) (by decide) (by
  have:=Lib.countB_le ⟨#[c]⟩ one s.size s (Nat.le_refl _)
  rw[if_pos (by decide)];omega)
 rw[Nat.add_sub_cancel,Lib.splitB_all ⟨#[c]⟩ one 1 _ s rfl] at hcall
 have e2:Lib.cellsOf (Lib.splitB ⟨#[c]⟩ 1 (Lib.countB s ⟨#[c]⟩) s) (Lib.countB s ⟨#[c]⟩+1)=((Lib.splitB ⟨#[c]⟩ 1 (Lib.countB s ⟨#[c]⟩) s).map Value.string).toArray:=by
  have hlen:=Lib.splitB_all ⟨#[c]⟩ one 1 _ s rfl
  rw[←hlen];exact Lib.cellsOf_full _
 rw[e2] at hcall
 refine hcall.mono fun e w' ⟨he,hw'⟩=> ?_
 have hn:H w.heap.size=none:=by
  cases hk:H w.heap.size with
  |none=>rfl
  |some k=>exact absurd (hw.lt hk) (by omega)
 have hcnt:Lib.countB s ⟨#[c]⟩=s.data.toList.count c:=by rw[←Lib.count_one]
 have hdata:(Lib.splitB ⟨#[c]⟩ 1 (Lib.countB s ⟨#[c]⟩) s).map (·.data.toList)=cutsA c s.data.toList:=by
  rw[Lib.splitB_data,hcnt];rfl
 have hlen:(cutsA c s.data.toList).length=Lib.countB s ⟨#[c]⟩+1:=by
  rw[←hdata,List.length_map];exact Lib.splitB_all _ one 1 _ s rfl
 have hmap:(Lib.splitB ⟨#[c]⟩ 1 (Lib.countB s ⟨#[c]⟩) s).map Value.string=(cutsA c s.data.toList).map str:=by
  rw[←hdata,List.map_map];rfl
 have hle:=Lib.countB_le ⟨#[c]⟩ one s.size s (Nat.le_refl _)
 rw[hmap] at hw'
 have hwsz:w'.heap[w.heap.size]?=some (.cells ((cutsA c s.data.toList).map str).toArray 9 (0,0)):=by
  rw[hw'];show(w.heap.push _)[w.heap.size]?=_;simp;rfl
 have hB:BelowX [] w w':=by rw[hw'];exact BelowX.alloc [] w _
 refine⟨_,[],fun b=>if b=w.heap.size then some (boxKB 9 ((cutsA c s.data.toList).map str)) else H b,he,rfl,hB,fun b k hk=> ?_,⟨fun _ hx=>(by cases hx),fun _ hx=>(by cases hx),by simp[setAll]⟩,⟨fun b k hk=> ?_,fun b k hk hn'=> ?_⟩,w.heap.size,_,rfl,?_⟩
 ·by_cases e1:b=w.heap.size
  ·subst e1
   simp only[if_pos] at hk
   obtain rfl:=Option.some.inj hk
   exact⟨_,_,hwsz,by simp[boxKB],fun _=>rfl,fun j v hj=>by simpa[boxKB] using hj⟩
  ·simp only[if_neg e1] at hk
   rw[hB.block b (hw.lt hk) (by simp)]
   exact hw b k hk
 ·have e1:b≠w.heap.size:=fun e1=>by rw[e1,hn] at hk;cases hk
  simp only[if_neg e1];exact hk
 ·by_cases e1:b=w.heap.size
  ·omega
  ·simp only[if_neg e1] at hk;rw[hk] at hn';cases hn'
 ·refine⟨hlen,by omega,fun _=>⟨_,0,rfl,fun i x hx=>⟨[str x],rfl,fun j v hj=> ?_⟩⟩⟩
  cases j with
  |zero=>
   simp only[List.getElem?_cons_zero,Option.some.injEq] at hj
   subst hj
   unfold Heap.cell
   simp[boxKB,hx]
  |succ j=>simp at hj
omit hL in
theorem l_suffix{s p:ByteArray}(hs:s.size<=9223372036854775807):SpecV Tryz.prog 150 [.string s,.string p] H fun v=>v= .bool (Lib.hasSuffix s.data.toList p.data.toList):=fun w hw=>
 (Any.strings_HasSuffix Tryz.lays100 s p w hs).mono fun e w' ⟨he,hw'⟩=>⟨_,he,rfl,by rw[hw'];exact Below.refl _ _⟩
theorem cSplitAfter{s:ByteArray}(hs:s.size<4294967281):Spec Tryz.prog 149 [.string s,.string ⟨#[10]⟩] H fun v H'=>
  ∃(g n:Nat),v= .slice (some ⟨g,0,none⟩) n n/\Sl RStr 1 H' (some ⟨g,0,none⟩) n (cutsA 10 s.data.toList):=by
 refine TryzvcJ Tryz.func149 (by kernel_rfl) (by kernel_rfl) _ rfl (fun base K=>vz69 s ⟨#[10]⟩ base H K) fun base hb=> ?_
 refine(l_genSplit hL (s:=s) (c:=10) hs).mono fun v H1 e1 hv=> ?_
 obtain⟨g,n,rfl,hS⟩:=hv
 exact⟨_,_,_,rfl,fun _=>⟨_,_,rfl,hS⟩⟩
end
open Go Go.Proofs
theorem extract_init(w:List UInt8)(c:UInt8):((⟨(w++[c]).toArray⟩:ByteArray).extract 0 w.length).data.toList=w:=by
 simp
section
variable {H : Heap} (hL : Lb H)
include hL
theorem cRefLines{s:ByteArray}{most:Nat}(hs:s.size<=60000)(hm:most<=200):Spec Tryz.prog 79 [.string s,.int .i64 most] H fun v H'=>∃a n c G rows,v= .tuple #[.slice a n c,i64 (linesF most 0 s.data.toList).2.1,i64 (linesF most 0 s.data.toList).2.2]/\
  NewSl RRec 7 126 H G H' a n c rows (linesF most 0 s.data.toList).1:=by
 refine TryzvcJ Tryz.func79 (by kernel_rfl) (by kernel_rfl) _ rfl (fun base K=>vz35 s most base H K) fun base hb=> ?_
 have hsd:=size_data s
 refine(cSplitAfter hL (s:=s) (by omega)).mono fun v H0 e0 hv=> ?_
 obtain⟨g0,N,rfl,hSp⟩:=hv
 refine⟨_,_,_,rfl,fun hN0=> ?_⟩
 generalize hS:s.data.toList=S at hsd hSp
 generalize hR:linesF most 0 S=R
 have hNl:=hSp.len
 have hNle:=hSp.le
 refine⟨fun vs H'=>∃(rest:List UInt8)(a:O)(n c:Nat)(n1 n2:Int)(a1:O)(n3 c1:Nat)(m:Nat)(G:Heap)(rows:List (List Value))(xs:List Recd),vs=[.slice a n c,i64 n1,i64 n2,.slice a1 n3 c1,i64 ((S.length-rest.length:Nat):Int),i64 m]/\
   OwnSl RRec 7 126 base G H' a1 n3 c1 rows xs/\Away H G/\rest.length<=S.length/\n3<=most/\(cutsA 10 S).drop m=cutsA 10 rest/\Ext H0 H'/\Apart H0 a1 c1/\R=(xs++(linesF most n3 rest).1,(S.length-rest.length)+(linesF most n3 rest).2.1,(linesF most n3 rest).2.2),
  upTo N 5,
  ⟨S,none,0,0,0,0,none,0,0,0,fun _=>none,[],[],by simp,OwnSl.zero (fun _ _ h=>by cases h),fun _ _ h=>(by cases h),Nat.le_refl _,by omega,rfl,Ext.refl _,Apart.none,by simp[←hR]⟩,fun a n c n1 n2 a1 n3 c1 n5 n6 H1 hN1 hI=> ?_⟩
 obtain⟨rest,a',n',c',n1',n2',a1',n3',c1',m,G,rows,xs,hvs,hO,hAw,hrl,hn3,hdr,hE,hAp,hRR⟩:=hI
 obtain⟨⟨rfl,rfl,rfl⟩,rfl,rfl,⟨rfl,rfl,rfl⟩,rfl,rfl⟩:(a=a'/\n=n'/\c=c')/\n1=n1'/\n2=n2'/\(a1=a1'/\n3=n3'/\c1=c1')/\n5=((S.length-rest.length:Nat):Int)/\n6=(m:Int):=by simpa using hvs
 obtain⟨hrlen,hxlen⟩:=hO.rlen (by omega)
 have hmN:m<N:=by
  rcases Nat.lt_or_ge m N with h|h
  ·exact h
  ·rw[List.drop_eq_nil_of_le (by omega)] at hdr
   rcases cut_cases 10 rest with⟨hno,_⟩|⟨w,t,hrest,hw,_⟩
   ·rw[cutsA_last hno] at hdr;cases hdr
   ·rw[hrest,cutsA_line hw] at hdr;cases hdr
 refine⟨fun hlt=> ?_,fun hge=>absurd (by omega) hge⟩
 refine hSp.str hE (by omega) hlt fun x hx=> ?_
 rw[Int.toNat_natCast] at hx
 have hhead:∃q,(cutsA 10 S).drop m=x::q/\(cutsA 10 S).drop (m+1)=q:=⟨_,drop_at hx,rfl⟩
 obtain⟨q,hq1,hq2⟩:=hhead
 rw[hdr] at hq1
 rcases cut_cases 10 rest with⟨hno,hcut⟩|⟨w,t,hrest,hw,hcut⟩
 ·rw[cutsA_last hno] at hq1
  obtain⟨rfl,rfl⟩:=List.cons.inj hq1
  refine⟨_,eqS,fun h=> ?_,fun h=> ?_⟩
  ·have hnil:rest=[]:=by
    have h:=of_decide_eq_true h
    rwa[data_mk] at h
   subst hnil
   rw[linesF_nil] at hRR
   subst hRR
   exact⟨a1,n3,c1,G,rows,rfl,by rw[List.append_nil];exact hO.new hb hAw⟩
  ·have hne:rest≠[]:=fun e=>h (by subst e;simp)
   refine(l_suffix (s:=⟨rest.toArray⟩) (p:=⟨#[10]⟩) (by rw[size_mk];omega)).bool1 fun H2 e2 hN2=>⟨fun _=> ?_,fun h=> ?_⟩
   ·rw[linesF_torn hno hne] at hRR
    subst hRR
    exact⟨a1,n3,c1,G,rows,rfl,by rw[List.append_nil];exact(hO.ext e2).new hb hAw⟩
   ·exfalso
    apply h
    rw[data_mk]
    exact suffix_none hno
 ·rw[hrest,cutsA_line hw] at hq1
  obtain⟨rfl,rfl⟩:=List.cons.inj hq1
  have hwl:w.length+t.length+1=rest.length:=by rw[hrest];simp;omega
  refine⟨_,eqS,fun h=> ?_,fun h=> ?_⟩
  ·have h:=of_decide_eq_true h
   rw[data_mk] at h
   exact absurd h (by simp)
  have hsz:(⟨(w++[10]).toArray⟩:ByteArray).size<=9223372036854775807:=by rw[size_mk,List.length_append,List.length_singleton];omega
  have hsx:=l_suffix (H:=H1) (s:=⟨(w++[10]).toArray⟩) (p:=⟨#[10]⟩) hsz
  rw[data_mk,show(⟨#[10]⟩:ByteArray).data.toList=[10] from rfl,suffix_line] at hsx
  refine hsx.bool1 fun H2 e2 hN2=>⟨fun h=>(by cases h),fun _=> ?_⟩
  rintro r rfl
  rw[size_mk (w++[10]),List.length_append,List.length_singleton,wrap_in (by omega) (by omega)]
  have hrn:((w.length+1:Nat):Int)-1=(w.length:Int):=by omega
  rw[hrn]
  refine⟨by omega,by omega,?_⟩
  rw[Int.toNat_natCast]
  have hex:=extract_init w 10
  generalize ((⟨(w++[10]).toArray⟩:ByteArray).extract 0 w.length)=sw at hex
  refine(cRecRead (hL.ext (Ext.trans hN1.ext e2)) (s:=sw) (by rw[hex];omega)).mono fun v H3 e3 hv=> ?_
  rw[hex] at hv
  obtain⟨a7,n7,c7,hv,hF⟩:=hv
  refine⟨_,_,_,_,_,_,a7,n7,c7,_,hv,fun hN3=>fun b1=> ?_⟩
  cases hr:recRead w with
  |error e=>
   have he:=recRead_err hr
   rw[hrest,linesF_err hw hr,←hrest] at hRR
   subst hRR
   refine⟨False,⟨fun h=>absurd h he,fun _=>⟨rfl,subH,id⟩⟩,fun h=>h.elim,fun _=>⟨fun _=> ?_,fun h=>absurd he h⟩⟩
   exact⟨a1,n3,c1,G,rows,rfl,by rw[List.append_nil];exact(hO.ext (Ext.trans e2 e3)).new hb hAw⟩
  |ok r=>
   rw[hr] at hF
   have hF:Fresh H2 H3 91 2 a7 n7 c7 (r.rel.lock.flatMap pinCells):=hF
   refine⟨(most:Int)<=n3,⟨fun _=>⟨rfl,subH,Iff.rfl⟩,fun h=>absurd rfl h⟩,fun hmost=>⟨fun _=> ?_,fun h=>absurd (by decide) h⟩,fun hmost=>⟨fun h=>absurd rfl h,fun _=> ?_⟩⟩
   ·have hmost:n3=most:=by omega
    rw[hrest,hmost,linesF_many hw hr,←hrest] at hRR
    subst hRR
    exact⟨a1,n3,c1,G,rows,rfl,by rw[List.append_nil];exact(hO.ext (Ext.trans e2 e3)).new hb hAw⟩
   ·have hmost:n3≠most:=by omega
    rw[hrest,linesF_more hw hr hmost] at hRR
    intro b2
    have hO3:=hO.grow RRec.mono (Ext.trans e2 e3)
    have hAw3:Away H (G.plus (newOf H1 H3)):=plus_away hAw (newOf_away.sub hN1.ext)
    have hP:Pins (G.plus (newOf H1 H3)) a7 n7 r.rel.lock:=Pins.ext' (hF.sl_new pinCells_len (by omega)) (Ext.trans (newOf_mono e2) (new_in_grow hO.sub))
    refine⟨_,hO3.row,by omega,by omega,fun a8 c8 H8 hG8 hR8=> ?_⟩
    rintro q rfl
    rintro q' rfl
    rw[wrap_in (n:=((S.length-rest.length:Nat):Int)+((w.length+1:Nat):Int)) (by omega) (by omega),wrap_in (n:=(m:Int)+1) (by omega) (by omega)]
    have hO8:=hO3.grew (rows':=[recVal r a7 n7 c7]) (ys:=[r]) hG8 (by rw[List.flatten_cons,List.flatten_nil,List.append_nil];exact hR8) (by intro q hq;simp at hq;subst hq;rfl) (AllR.one ⟨a7,n7,c7,rfl,hP⟩)
    obtain⟨hE8,hAp8⟩:=hAp.grew (Ext.trans (Ext.trans hE e2) e3) hG8
    refine⟨⟨t,a,n,c,n1,n2,a8,n3+1,c8,m+1,_,rows++[recVal r a7 n7 c7],xs++[r],?_,hO8,hAw3,by omega,by omega,hq2,hE8,hAp8,?_⟩,by simp[upTo];omega⟩
    ·rw[show((S.length-rest.length:Nat):Int)+((w.length+1:Nat):Int)=((S.length-t.length:Nat):Int) from by omega];rfl
    ·rw[hRR]
     simp only[List.append_assoc,List.singleton_append]
     congr 2
     rw[List.length_append,List.length_cons]
     omega
theorem cRefDiskCheck{sa wa:O}{sn sc wn wc:Nat}{d:Dsk}(hd:DskAt H d sa sn sc wa wn wc):Spec Tryz.prog 146 [dskArg sa sn sc wa wn wc] H fun v _=>v=i64 (dskErr d):=by
 refine TryzvcJ Tryz.func146 (by kernel_rfl) (by kernel_rfl) _ rfl (fun base K=>vz10 sa wa sn sc wn wc base H K) fun base hb=>fun b=> ?_
 have hs:=hd.safe.len
 have hw:=hd.wait.len
 have h1:=hd.safe.le
 have h2:=hd.wait.le
 refine⟨(60000:Int)<sn∨(60000:Int)-sn<wn,⟨fun h=>⟨rfl,subH,.inl h⟩,fun h=> ?_⟩,fun h=> ?_,fun h=> ?_⟩
 ·rintro r rfl
  rw[wrap_in (by omega) (by omega)]
  exact⟨rfl,subH,⟨fun h'=>h'.resolve_left h,fun h'=> .inr h'⟩⟩
 ·unfold dskErr
  by_cases hc:60000<d.safe.length
  ·rw[if_pos hc]
  ·rw[if_neg hc,if_pos (by omega)]
 ·have e:dskErr d=(linesF 200 0 d.safe).2.2:=by
   unfold dskErr
   rw[if_neg (by omega),if_neg (by omega)]
  rw[e]
  refine⟨d.safe,hs,(hd.safe.conv (Ext.refl _)).2,?_⟩
  refine(cRefLines hL (s:=⟨d.safe.toArray⟩) (most:=200) (by rw[size_mk];omega) (by omega)).mono fun v H1 e1 hv=> ?_
  obtain⟨a,n,c,G,rows,hv,_⟩:=hv
  exact⟨a,n,c,_,_,hv,fun _=>rfl⟩
theorem cRecovered{sa wa:O}{sn sc wn wc:Nat}{d:Dsk}(hd:DskAt H d sa sn sc wa wn wc)(h:dskErr d=0):Spec Tryz.prog 23 [dskArg sa sn sc wa wn wc] H fun v H'=>∃a1 n1 c1 a2 n2 c2 a3 n3 c3,v= .tuple #[dskArg a1 n1 c1 a2 n2 c2,.slice a3 n3 c3]/\
  DskAt H' (dskBack d) a1 n1 c1 a2 n2 c2/\n3<=c3/\Recs H' a3 n3 (dskRecs d):=by
 refine TryzvcJ Tryz.func23 (by kernel_rfl) (by kernel_rfl) _ rfl (fun base K=>vz17 sa wa sn sc wn wc base H K) fun base hb=>fun b b'=> ?_
 obtain⟨z1,z2,z3⟩:=dskErr_zero h
 have hs:=hd.safe.len
 have hw:=hd.wait.len
 have hle:=hd.wle
 refine⟨d.safe,hs,(hd.safe.conv (Ext.refl _)).2,?_⟩
 refine(cRefLines hL (s:=⟨d.safe.toArray⟩) (most:=200) (by rw[size_mk];omega) (by omega)).mono fun v H2 e2 hv=> ?_
 obtain⟨a3,n3,c3,G3,rows3,rfl,hS3⟩:=hv
 rw[data_mk] at hS3
 refine⟨a3,n3,c3,_,_,rfl,fun hN2=> ?_⟩
 obtain⟨i1,i2,i3,i4,i5⟩:=linesF_ok (most:=200) d.safe.length (s:=d.safe) (k:=0) (Nat.le_refl _) (by omega)
 have hR3:Recs H2 a3 n3 (linesF 200 0 d.safe).1:=hS3.sl RRec.mono (by omega) hN2
 have hx3:=hR3.len
 have hd2:=hd.ext e2
 refine⟨d.wait,hw,(hd2.wait.conv (Ext.refl _)).2,?_⟩
 rintro r rfl
 rw[wrap_in (by omega) (by omega)]
 have hm:(200:Int)-n3=((200-n3:Nat):Int):=by omega
 rw[hm]
 refine(cRefLines (hL.ext e2) (s:=⟨d.wait.toArray⟩) (most:=200-n3) (by rw[size_mk];omega) (by omega)).mono fun v H3 e3 hv=> ?_
 obtain⟨a4,n4,c4,G4,rows4,rfl,hS4⟩:=hv
 rw[data_mk] at hS4⊢
 have hmore:linesF (200-n3) 0 d.wait=dskMore d:=by unfold dskMore;rw[←hx3]
 rw[hmore] at hS4⊢
 refine⟨a4,n4,c4,_,_,rfl,fun hN3=> ?_⟩
 have hR4:Recs H3 a4 n4 (dskMore d).1:=hS4.sl RRec.mono (by omega) hN3
 have hx4:=hR4.len
 have j:(dskMore d).1.length<=200/\(dskMore d).2.1<=d.wait.length:=by
  obtain⟨_,j2,j3,_⟩:=linesF_ok (most:=200-(linesF 200 0 d.safe).1.length) d.wait.length (s:=d.wait) (k:=0) (Nat.le_refl _) (by omega)
  exact⟨by unfold dskMore;omega,j3⟩
 have hfl: [(linesF 200 0 d.safe).1,(dskMore d).1].flatten=dskRecs d:=by simp[dskRecs]
 have joinR:∀ {Hg:Heap} {g:Nat},Ext H3 Hg->Hg g=some (boxKB 53 [.slice a3 n3 c3,.slice a4 n4 c4])->Spec Tryz.prog 81 [.slice (some ⟨g,0,none⟩) 2 2] Hg fun v H'=>∃a n c,v= .slice a n c/\n<=c/\Recs H' a n (dskRecs d):=fun{Hg g} eg hg=>by
  have hS:Sl (RSl RRec 7) 1 Hg (some ⟨g,0,none⟩) 2 [(linesF 200 0 d.safe).1,(dskMore d).1]:=sl_box_rows (rs:=[[.slice a3 n3 c3],[.slice a4 n4 c4]]) hg (by simp) ⟨⟨a3,n3,c3,rfl,(hR3.ext' e3).ext' eg⟩,⟨a4,n4,c4,rfl,hR4.ext' eg⟩,trivial⟩ rfl (by decide)
  have:=cConcatR (c:=2) hS (by omega) (by simp;omega)
  rw[hfl] at this
  exact this
 have hd3:=hd2.ext e3
 have joinB:∀ {Hg:Heap} {g:Nat},Ext H3 Hg->Hg g=some (boxKB 33 [.slice sa sn sc,.slice wa (Int.toNat ((dskMore d).2.1:Int)) wc])->Spec Tryz.prog 80 [.slice (some ⟨g,0,none⟩) 2 2] Hg fun v H'=>∃a n c,v= .slice a n c/\n<=c/\Bytes H' a n (dskBack d).safe:=fun{Hg g} eg hg=>by
  rw[Int.toNat_natCast] at hg
  have hsub:Bytes Hg wa (dskMore d).2.1 (d.wait.take (dskMore d).2.1):=by
   have:=((hd3.ext eg).wait).sub (l:=0) (m:=(dskMore d).2.1) (a':=wa) (by omega) (fun _=>by cases wa<;>simp[Addr.add])
   rwa[List.drop_zero] at this
  refine(cJoin2 hg (hd3.ext eg).safe hsub (by rw[List.length_take];omega)).mono fun v H5 e5 hv=> ?_
  obtain⟨a5,n5,c5,rfl,hF5⟩:=hv
  exact⟨a5,n5,c5,rfl,hF5.le,hF5.bytes.ext' newOf_ext⟩
 have fin:∀ {Hf:Heap} {a1:O} {n1 c1:Nat} {a2:O} {n2 c2:Nat},n1<=c1->Bytes Hf a1 n1 (dskBack d).safe->n2<=c2->Recs Hf a2 n2 (dskRecs d)->∃a1' n1' c1' a2' n2' c2' a3' n3' c3',Value.tuple #[.agg #[.slice a1 n1 c1,.slice none 0 0],.slice a2 n2 c2]= .tuple #[dskArg a1' n1' c1' a2' n2' c2',.slice a3' n3' c3']/\
   DskAt Hf (dskBack d) a1' n1' c1' a2' n2' c2'/\n3'<=c3'/\Recs Hf a3' n3' (dskRecs d):=fun h1 h2 h3 h4=>⟨_,_,_,_,_,_,_,_,_,rfl,⟨h2,Sl.nil,h1,by omega⟩,h3,h4⟩
 refine⟨by omega,by omega,fun g H4 hN4 hgn hg=>⟨?_,fun g1 H5 hN5 hgn1 hg1=> ?_⟩,fun g H4 hN4 hgn hg=>fun g1 H5 hN5 hgn1 hg1=> ?_⟩
 ·refine(joinB hN4.ext hg).mono fun v H5 e5 hv=> ?_
  obtain⟨a5,n5,c5,rfl,l5,hB⟩:=hv
  refine⟨a5,n5,c5,rfl,fun hN5=>fun g1 H6 hN6 hgn1 hg1=> ?_⟩
  refine(joinR (Ext.trans (Ext.trans hN4.ext e5) hN6.ext) hg1).mono fun v H7 e7 hv=> ?_
  obtain⟨a6,n6,c6,rfl,l6,hR⟩:=hv
  exact⟨a6,n6,c6,rfl,fun hN7=>fin l5 (hB.ext' (Ext.trans hN6.ext e7)) l6 hR⟩
 ·refine(joinB (Ext.trans hN4.ext hN5.ext) (hN5.ext _ _ hg)).mono fun v H6 e6 hv=> ?_
  obtain⟨a5,n5,c5,rfl,l5,hB⟩:=hv
  refine⟨a5,n5,c5,rfl,fun hN6=> ?_⟩
  refine(joinR (Ext.trans (Ext.trans hN4.ext hN5.ext) e6) (e6 _ _ hg1)).mono fun v H7 e7 hv=> ?_
  obtain⟨a6,n6,c6,rfl,l6,hR⟩:=hv
  exact⟨a6,n6,c6,rfl,fun hN7=>fin l5 (hB.ext' e7) l6 hR⟩
 ·refine(joinB (Ext.trans hN4.ext hN5.ext) hg1).mono fun v H6 e6 hv=> ?_
  obtain⟨a5,n5,c5,rfl,l5,hB⟩:=hv
  refine⟨a5,n5,c5,rfl,fun hN6=> ?_⟩
  refine(joinR (Ext.trans (Ext.trans hN4.ext hN5.ext) e6) (e6 _ _ (hN5.ext _ _ hg))).mono fun v H7 e7 hv=> ?_
  obtain⟨a6,n6,c6,rfl,l6,hR⟩:=hv
  exact⟨a6,n6,c6,rfl,fun hN7=>fin l5 (hB.ext' e7) l6 hR⟩
end
end Go.Vg
