/- What is proved here: a part of the proof of laws of this seat: what a contract is, how it comes of a condition, contracts of the functions that are reached, the plain laws. -/
import Derived.Test.YtgaegoefbekndaaGreatDoorSE4
import Derived.KernelRfl
import Derived.Laws.Cover2
import Derived.Laws.Cover3
import Derived.Laws.Pointers
import Derived.Laws.Small
import Derived.Laws.StructEq
import Derived.Laws.Tables
import Derived.StillTactics
import Derived.Tactics
import Derived.Tactics2
import Derived.ChangeKeysEq
set_option linter.unusedSimpArgs false
set_option linter.unusedVariables false
set_option maxRecDepth 100000
namespace Go.Vg
open Go Go.Proofs
theorem cIn{H:Heap}(n a b:Int):Spec Tryz.prog 92 [i64 n,i64 a,i64 b] H fun v _=>v= .bool (inR n a b):=by
 refine Tryzvc Tryz.func92 (by kernel_rfl) (by kernel_rfl) _ rfl (fun base K=>vc102 n a b base H K) fun base hb=>⟨fun h=> ?_,fun h=> ?_⟩
 ·simp[inR,h]
 ·simp[inR,h]
def idxFrom(x:Int):Int->List Int->Int
 |_,[]=> -1
 |i,y::r=>if x=y then i else idxFrom x (i+1) r
theorem idxFrom_mem(x:Int):∀(l:List Int)(i:Int),0<=i->(0<=idxFrom x i l↔x∈l)
 | [],i,_=>by simp[idxFrom]
 |y::r,i,h=>by
  unfold idxFrom
  split
  ·rename_i e;subst e;simp[h]
  ·rename_i e;rw[idxFrom_mem x r (i+1) (by omega)];simp[e]
theorem cIndex{H:Heap}{a:O}{l c:Nat}{xs:List Int}(hx:Sl RInt 1 H a l xs)(x:Int):Spec Tryz.prog 194 [.slice a l c,i64 x] H fun v _=>v=i64 (idxFrom x 0 xs):=by
 refine Tryzvc Tryz.func194 (by kernel_rfl) (by kernel_rfl) _ rfl (fun base K=>vc140 a l c x base H K) fun base hb=> ?_
 have hle:=hx.le
 refine⟨fun vs _=>∃(d:Int)(k:Nat),vs=[i64 d,i64 k]/\k<=l/\idxFrom x k (xs.drop k)=idxFrom x 0 xs,upTo l 1,⟨0,0,rfl,by omega,rfl⟩,fun d n H' hN hI=> ?_⟩
 obtain⟨d',k,hvs,hk,hI⟩:=hI
 obtain⟨rfl,rfl⟩:d=d'/\n=(k:Int):=by simpa using hvs
 refine⟨fun hlt=>hx.int hN.ext (by omega) hlt fun y hy=> ?_,fun hge=> ?_⟩
 ·rw[Int.toNat_natCast] at hy
  rw[drop_at hy] at hI
  refine⟨fun he=> ?_,?_⟩
  ·rw[←hI,idxFrom,if_pos he]
  ·rintro he r rfl
   rw[wrap_in (by omega) (by omega)]
   exact⟨⟨d,k+1,rfl,by omega,by rw[idxFrom,if_neg he] at hI;exact hI⟩,by simp[upTo];omega⟩
 ·rw[←hI,drop_all hx.len (by omega),idxFrom]
theorem cContains{H:Heap}{a:O}{l c:Nat}{xs:List Int}(hx:Sl RInt 1 H a l xs)(x:Int):Spec Tryz.prog 137 [.slice a l c,i64 x] H fun v _=>v= .bool (decide (x∈xs)):=by
 refine Tryzvc Tryz.func137 (by kernel_rfl) (by kernel_rfl) _ rfl (fun base K=>vc103 a l c x base H K) fun base hb=> ?_
 refine(cIndex hx x).int1 fun H' _ _=> ?_
 simp[idxFrom_mem x xs 0 (by omega)]

def seenCells(s:List Int):List Value:=s.flatMap fun x=>[i64 x,.bool true]
theorem seenCells_len(s:List Int):(seenCells s).length=2*s.length:=by
 induction s with
 |nil=>rfl
 |cons a r ih=>simp[seenCells] at ih⊢;omega
theorem mapGet_seen(x:Int):∀s:List Int,mapGet (.bool false) (.int .i64 x) (seenCells s)=some (.bool (decide (x∈s)),decide (x∈s))
 | []=>by simp[seenCells,mapGet]
 |y::r=>by
  have ih:=mapGet_seen x r
  simp only[seenCells,List.flatMap_cons,List.cons_append,List.nil_append,mapGet,keySame,if_pos] at ih⊢
  by_cases e:y=x
  ·subst e;simp
  ·have e':¬x=y:=fun h=>e h.symm
   simp only[e,decide_false,List.mem_cons,e',false_or];exact ih
theorem mapSet_seen(x:Int):∀s:List Int,x∉s->mapSet (.int .i64 x) (.bool true) (seenCells s)=some (seenCells (s++[x]))
 | [],_=>rfl
 |y::r,h=>by
  have ih:=mapSet_seen x r (fun h'=>h (List.mem_cons_of_mem _ h'))
  have e:¬y=x:=fun h'=>h (h'▸List.mem_cons_self)
  have e':¬x=y:=fun h'=>h (h'▸List.mem_cons_self)
  simp only[seenCells,List.flatMap_cons,List.cons_append,List.nil_append,mapSet,keySame,if_pos,e,e',decide_false] at ih⊢
  rw[ih];rfl

abbrev Waves(H:Heap)(a:O)(n:Nat)(l:List (List Int)):Prop:=Sl (RSl RInt 1) 1 H a n l
theorem Waves.ext'{H H':Heap}{a:O}{n:Nat}{l:List (List Int)}(h:Waves H a n l)(e:Ext H H'):Waves H' a n l:=Sl.ext (RSl.mono RInt.mono) h e
theorem cWaveCheck{H:Heap}{a:O}{l c:Nat}{ws:List (List Int)}(hx:Waves H a l ws)(k:Int):Spec Tryz.prog 187 [.slice a l c,i64 k] H fun v _=>v=i64 (waveCheck ws k):=by
 refine Tryzvc Tryz.func187 (by kernel_rfl) (by kernel_rfl) _ rfl (fun base K=>vc26 a l c k base H K) fun base hb=>⟨fun h1=> ?_,fun h1=>⟨fun h2=> ?_,fun h2=> ?_⟩⟩
 ·rw[waveCheck,if_pos h1]
 ·rw[waveCheck,if_neg h1,if_pos h2]
 have hW:waveCheck ws k=waveAll k [] ws:=by rw[waveCheck,if_neg h1,if_neg h2]
 rw[hW]
 have hle:=hx.le
 intro _
 refine⟨fun vs _=>∃(d:Int)(i:Nat)(s:List Int),vs=[i64 d,i64 i,.agg (seenCells s).toArray]/\i<=l/\waveAll k s (ws.drop i)=waveAll k [] ws,upTo l 1,⟨0,0,[],rfl,by omega,rfl⟩,fun d n cs H' hN hI=> ?_⟩
 obtain⟨d',i,s,hvs,hi,hI⟩:=hI
 obtain⟨rfl,rfl,rfl⟩:d=d'/\n=(i:Int)/\cs=seenCells s:=by simpa using hvs
 refine⟨fun hlt=>hx.slice hN.ext (by omega) hlt fun w a' n' c' hw hs=> ?_,fun hge=> ?_⟩
 ·rw[Int.toNat_natCast] at hw
  rw[drop_at hw,waveAll] at hI
  have hwl:=hs.len
  have hwle:=hs.le
  refine⟨fun h0=> ?_,fun h0=> ?_⟩
  ·rw[←hI,if_pos (List.length_eq_zero_iff.1 (by omega))]
  ·rw[if_neg (by rintro rfl;simp at hwl;omega)] at hI
   refine⟨fun vs _=>∃(d2:Int)(j:Nat)(s':List Int),vs=[i64 d2,i64 j,.agg (seenCells s').toArray]/\j<=n'/\(match waveIn k s' (w.drop j) with| .error e=>e| .ok s''=>waveAll k s'' (ws.drop (i+1)))=waveAll k [] ws,
    upTo n' 1,⟨_,0,s,rfl,by omega,hI⟩,fun d2 m cs2 H2 hN2 hI2=> ?_⟩
   obtain⟨d3,j,s',hvs2,hj,hI2⟩:=hI2
   obtain⟨rfl,rfl,rfl⟩:d2=d3/\m=(j:Int)/\cs2=seenCells s':=by simpa using hvs2
   refine⟨fun hlt2=> ?_,fun hge2=> ?_⟩
   ·refine hs.int hN2.ext (by omega) hlt2 fun x hx2=> ?_
    rw[Int.toNat_natCast] at hx2
    rw[drop_at hx2,waveIn] at hI2
    refine⟨fun hlo=> ?_,fun hlo=>⟨fun hhi=> ?_,fun hhi=> ?_⟩⟩
    ·rw[if_pos hlo] at hI2;rw[←hI2]
    ·rw[if_neg hlo,if_pos hhi] at hI2;rw[←hI2]
    ·rw[if_neg hlo,if_neg hhi] at hI2
     refine⟨_,_,mapGet_seen x s',fun hm=> ?_,fun hm=> ?_⟩
     ·rw[if_pos (by simpa using hm)] at hI2;rw[←hI2]
     ·have hm':x∉s':=by simpa using hm
      rw[if_neg hm'] at hI2
      refine⟨_,mapSet_seen x s' hm',?_⟩
      rintro r rfl
      rw[wrap_in (by omega) (by omega)]
      exact⟨⟨_,j+1,s'++[x],rfl,by omega,hI2⟩,by simp[upTo];omega⟩
   ·rw[drop_all hwl (by omega),waveIn] at hI2
    rintro r rfl
    rw[wrap_in (by omega) (by omega)]
    exact⟨⟨_,i+1,s',rfl,by omega,hI2⟩,by simp[upTo];omega⟩
 ·rw[drop_all hx.len (by omega),waveAll] at hI
  rw[←hI,seenCells_len]
  refine⟨fun h=> ?_,fun h=> ?_⟩
  ·rw[if_pos (by omega)]
  ·rw[if_neg (by omega)]
theorem wrap_small{n:Int}(h: -100000<=n)(h':n<=100000):IntKind.wrap .i64 n=n:=wrap_in (by omega) (by omega)
theorem cWaveOf{H:Heap}{a:O}{l c:Nat}{ws:List (List Int)}(hx:Waves H a l ws)(k:Int):Spec Tryz.prog 49 [.slice a l c,i64 k] H fun v _=>v=i64 (waveOf ws k):=by
 have h105:∀ {H:Heap} {a:O} {l c:Nat} {xs:List Int} {p:Nat},Sl RInt 1 H a l xs->H.cell p 0=some (i64 k)->Spec Tryz.prog 136 [.slice a l c,.pointer (some ⟨p,0,none⟩)] H fun v _=>v= .bool (decide (k∈xs)):=by
  intro H a l c xs p hx hp
  refine Tryzvc Tryz.func136 (by kernel_rfl) (by kernel_rfl) _ rfl (fun base K=>vc105 a l c p base H K) fun base hb=>⟨k,hp,(cContains hx k).bool1 fun H' _ _=>rfl⟩
 have h104:∀ {H:Heap} {a:O} {l c:Nat} {ws:List (List Int)} {p:Nat},Waves H a l ws->H.cell p 0=some (i64 k)->Spec Tryz.prog 135 [.slice a l c,.func (.func 136) #[] #[.pointer (some ⟨p,0,none⟩)]] H fun v _=>v=i64 (waveOf ws k):=by
  intro H a l c ws p hx hp
  refine Tryzvc Tryz.func135 (by kernel_rfl) (by kernel_rfl) _ rfl (fun base K=>vc104 a l c p base H K) fun base hb=> ?_
  have hle:=hx.le
  refine⟨fun vs _=>∃(d:Int)(i:Nat),vs=[i64 d,i64 i]/\i<=l/\waveOfFrom k i (ws.drop i)=waveOf ws k,upTo l 1,⟨0,0,rfl,by omega,rfl⟩,fun d n H' hN hI=> ?_⟩
  obtain⟨d',i,hvs,hi,hI⟩:=hI
  obtain⟨rfl,rfl⟩:d=d'/\n=(i:Int):=by simpa using hvs
  refine⟨fun hlt=>hx.slice hN.ext (by omega) hlt fun w a' n' c' hw hs=> ?_,fun hge=> ?_⟩
  ·rw[Int.toNat_natCast] at hw
   rw[drop_at hw,waveOfFrom] at hI
   refine(h105 (hs.ext RInt.mono hN.ext) (Heap.cell_next hN.ext hp)).bool1 fun H2 _ _=>⟨fun h=> ?_,fun h=> ?_⟩
   ·rw[if_pos (by simpa using h)] at hI;rw[←hI]
   ·rw[if_neg (by simpa using h)] at hI
    rintro r rfl
    rw[wrap_in (by omega) (by omega)]
    exact⟨⟨_,i+1,rfl,by omega,hI⟩,by simp[upTo];omega⟩
  ·rw[←hI,drop_all hx.len (by omega),waveOfFrom]
 refine Tryzvc Tryz.func49 (by kernel_rfl) (by kernel_rfl) _ rfl (fun base K=>vc27 a l c k base H K) fun base hb=> ?_
 intro b
 refine⟨rfl,fun Hl hNl hb=> ?_⟩
 refine(h104 (hx.ext' hNl.ext) (p:=b) (by unfold Heap.cell;rw[hb.1];rfl)).mono fun v H2 e2 hv=>⟨_,hv,fun H' hN _=>rfl⟩
def waveNow(ws:List (List Int))(th:List Bool):Int:=if waveCheck ws th.length=0 then nowFrom th 0 ws else 0
theorem cWaveNow{H:Heap}{a a':O}{l c l' c':Nat}{ws:List (List Int)}{th:List Bool}(hx:Waves H a l ws)(ht:Sl RBool 1 H a' l' th):
  Spec Tryz.prog 252 [.slice a l c,.slice a' l' c'] H fun v _=>v= .tuple #[i64 (waveNow ws th),i64 (waveCheck ws th.length)]:=by
 refine Tryzvc Tryz.func252 (by kernel_rfl) (by kernel_rfl) _ rfl (fun base K=>vc23 a a' l c l' c' base H K) fun base hb=> ?_
 have hle:=hx.le
 have htl:=ht.len
 rw[htl]
 refine(cWaveCheck hx l').int1 fun H1 e1 hN1=>⟨fun h=> ?_,fun h=> ?_⟩
 ·rw[waveNow,htl,if_neg h]
 have h:=Decidable.not_not.1 h
 obtain⟨k1,k2,hnd,hin,hne⟩:=waveCheck_zero h
 have hW:waveNow ws th=nowFrom th 0 ws:=by rw[waveNow,htl,if_pos h]
 rw[hW,h]
 refine⟨fun vs _=>∃(d1 d2:Int)(i:Nat),vs=[i64 d1,i64 d2,i64 i]/\i<=l/\nowFrom th i (ws.drop i)=nowFrom th 0 ws,upTo l 2,⟨0,0,0,rfl,by omega,rfl⟩,fun d1 d2 n H' hN hI=> ?_⟩
 obtain⟨d1',d2',i,hvs,hi,hI⟩:=hI
 obtain⟨rfl,rfl,rfl⟩:d1=d1'/\d2=d2'/\n=(i:Int):=by simpa using hvs
 refine⟨fun hlt=>hx.slice hN.ext (by omega) hlt fun w b n' d' hw hs=> ?_,fun hge=> ?_⟩
 ·rw[Int.toNat_natCast] at hw
  rw[drop_at hw,nowFrom] at hI
  have hwle:=hs.le
  refine⟨fun vs _=>∃(d1 d2:Int)(j:Nat),vs=[i64 d1,i64 d2,i64 j]/\j<=n'/\(if(w.drop j).any (notThrough th) then(i:Int) else nowFrom th (i+1) (ws.drop (i+1)))=nowFrom th 0 ws,
   upTo n' 2,⟨_,_,0,rfl,by omega,hI⟩,fun e1 e2 m H2 hN2 hI2=> ?_⟩
  obtain⟨e1',e2',j,hvs2,hj,hI2⟩:=hI2
  obtain⟨rfl,rfl,rfl⟩:e1=e1'/\e2=e2'/\m=(j:Int):=by simpa using hvs2
  refine⟨fun hlt2=>hs.int hN2.ext (by omega) hlt2 fun x hx2=> ?_,fun hge2=> ?_⟩
  ·rw[Int.toNat_natCast] at hx2
   have hxin:=(hin x).1 (List.mem_flatten.2 ⟨w,List.mem_of_getElem? hw,List.mem_of_getElem? hx2⟩)
   rw[drop_at hx2,List.any_cons] at hI2
   refine ht.bool hN2.ext hxin.1 hxin.2 fun y hy=>⟨fun h=> ?_,fun h=> ?_⟩
   ·rw[if_pos (by simp[notThrough,hy,h])] at hI2;rw[←hI2]
   ·rintro r rfl
    rw[wrap_in (by omega) (by omega)]
    exact⟨⟨_,_,j+1,rfl,by omega,by simpa[notThrough,hy,h] using hI2⟩,by simp[upTo];omega⟩
  ·rw[drop_all hs.len (by omega),if_neg (by simp)] at hI2
   rintro r rfl
   rw[wrap_in (by omega) (by omega)]
   exact⟨⟨_,_,i+1,rfl,by omega,hI2⟩,by simp[upTo];omega⟩
 ·rw[←hI,drop_all hx.len (by omega),nowFrom]
  rw[show(i:Int)=l from by omega]
theorem ints_of_box{H:Heap}{g:Nat}{ty:TypeId}{xs:List Int}{n:Nat}(h:H g=some (boxKB ty (xs.map i64)))(hn:xs.length=n)(hle:(n:Int)<=9223372036854775807):Sl RInt 1 H (some ⟨g,0,none⟩) n xs:=
 Sl.of_has (rows:=intRows xs) (Has.of_box h (by clear h hn;induction xs with|nil=>rfl|cons x r ih=>simp[intRows] at ih⊢;exact ih) (by intro r hr;simp[intRows] at hr;obtain⟨x,_,rfl⟩:=hr;rfl) (by simp[intRows];exact hn) hle) (by simp[intRows])
  fun i r x hr hx=>by
   simp[intRows] at hr
   obtain⟨y,hy,rfl⟩:=hr
   rw[hx] at hy
   obtain rfl:=Option.some.inj hy
   rfl
open Go Go.Proofs
theorem neq48{xo yo:Operand}(a b c d:Int):RunsTo Tryz.prog (binRun .neq 91 xo yo (.agg #[.int .i64 a,.int .i64 b]) (.agg #[.int .i64 c,.int .i64 d])) (.bool (!(a==c&&b==d))):=by
 intro w
 have u3:= Tryz.underlying3
 have a3:= Tryz.isAgg3
 have z3:= Tryz.sizeOf3
 have hS: Tryz.prog.underlying 91=some (.struct (Tryz.prog.fieldsOf 91)):=by kernel_rfl
 have hp: Tryz.prog.stoodInHeld 91=false:=by kernel_rfl
 have hm: Tryz.prog.eqGuardType Tryz.prog.depth 91=false:=by kernel_rfl
 have he:(Op.equalIn 10000 91 (.agg #[.int .i64 a,.int .i64 b]) (.agg #[.int .i64 c,.int .i64 d])).run Tryz.prog w= .ok (a==c&&b==d) w:=by
  rw[show(10000:Nat)=9999+1 from rfl,run_equalIn_agg w 9999 91 _ _ hS hp]
  simp only[Program.fieldsOf,Tryz.underlying91]
  go_simp
  by_cases h1:a=c<;>by_cases h2:b=d<;>simp[h1,h2]
 simp only[binRun,Sem.run_bind,run_eqGuard_agg w _ 91 _ _ _ _ hm,Result.andThen_ok,run_neq_struct,he]
theorem eqNil{ty e:TypeId}(h: Tryz.prog.underlying ty=some (.slice e)){xo:Operand}{a:O}{n c:Nat} :RunsTo Tryz.prog (binRun .eql ty xo (.const (.slice none 0 0)) (.slice a n c) (.slice none 0 0)) (.bool a.isNone):=by
 intro w
 have hg:(eqGuard .eql ty xo (.const (.slice none 0 0)) (.slice a n c) (.slice none 0 0)).run Tryz.prog w= .ok () w:=by simp[eqGuard]
 simp only[binRun,Sem.run_bind,hg,Result.andThen_ok]
 have:=run_equal_slice_nil w ty e a n c h
 simp[binOp,this]
theorem eqBool{xo yo:Operand}{a b:Bool} :RunsTo Tryz.prog (binRun .eql 4 xo yo (.bool a) (.bool b)) (.bool (a==b)):=by
 intro w
 have hg:(eqGuard .eql 4 xo yo (.bool a) (.bool b)).run Tryz.prog w= .ok () w:=by simp[eqGuard]
 simp only[binRun,Sem.run_bind,hg,Result.andThen_ok]
 have:=run_equal_bool w 4 a b Tryz.underlying4
 simp[binOp,this]
open Go Go.Proofs
def lastName(xs:List Pin):Nat->Int
 |0=>0
 |i+1=>match xs[i]? with|some p=>p.name|none=>0
theorem cLockCheck{H:Heap}{a:O}{l c:Nat}{xs:List Pin}(hx:Pins H a l xs):Spec Tryz.prog 140 [.slice a l c] H fun v _=>v=i64 (lockCheck xs):=by
 refine Tryzvc Tryz.func140 (by kernel_rfl) (by kernel_rfl) _ rfl (fun base K=>vc62 a l c base H K) fun base hb=> ?_
 have hl:=hx.len
 refine⟨fun h=> ?_,fun h=> ?_⟩
 ·rw[lockCheck,if_pos (by omega)]
 have hW:lockCheck xs=lockFrom 0 xs:=by rw[lockCheck,if_neg (by omega)]
 rw[hW]
 refine⟨fun vs _=>∃(d:Int)(i:Nat),vs=[i64 d,i64 i]/\i<=l/\lockFrom (lastName xs i) (xs.drop i)=lockFrom 0 xs,upTo l 1,⟨0,0,rfl,by omega,rfl⟩,fun d n H' hN hI=> ?_⟩
 obtain⟨d',i,hvs,hi,hI⟩:=hI
 obtain⟨rfl,rfl⟩:d=d'/\n=(i:Int):=by simpa using hvs
 refine⟨fun hlt=>hx.pin hN.ext (by omega) hlt fun p hp=> ?_,fun hge=> ?_⟩
 ·rw[Int.toNat_natCast] at hp
  rw[drop_at hp,lockFrom] at hI
  intro _
  have hnext:lastName xs (i+1)=p.name:=by simp[lastName,hp]
  refine⟨fun h1=> ?_,fun h1=>⟨fun h2=> ?_,fun h2=>⟨fun h3=> ?_,fun h3=>⟨fun h4=> ?_,fun h4=>⟨fun h5=> ?_,fun h5=> ?_⟩⟩⟩⟩⟩
  ·rw[if_pos (by unfold badPin;omega)] at hI;rw[←hI]
  ·rw[if_pos (by unfold badPin;omega)] at hI;rw[←hI]
  ·rw[if_pos (by unfold badPin;omega)] at hI;rw[←hI]
  ·rw[if_pos (by unfold badPin;omega)] at hI;rw[←hI]
  ·rw[if_neg (by unfold badPin;omega)] at hI
   rintro r rfl
   rw[wrap_small (by omega) (by omega)]
   refine hx.pinName hN.ext (by omega) (by omega) fun q hq=> ?_
   have hlast:lastName xs i=q.name:=by
    obtain⟨j,rfl⟩:∃j,i=j+1:=⟨i-1,by omega⟩
    rw[show((j+1:Nat):Int)-1=(j:Int) from by omega,Int.toNat_natCast] at hq
    simp[lastName,hq]
   rw[hlast] at hI
   refine⟨fun h6=> ?_,fun h6=> ?_⟩
   ·rw[if_pos h6] at hI;rw[←hI]
   ·rw[if_neg h6] at hI
    rintro r rfl
    rw[wrap_small (by omega) (by omega)]
    exact⟨⟨_,i+1,rfl,by omega,by rw[hnext];exact hI⟩,by simp[upTo];omega⟩
  ·rw[if_neg (by unfold badPin;omega)] at hI
   obtain rfl:i=0:=by omega
   rw[if_neg (by simp[lastName];omega)] at hI
   rintro r rfl
   rw[wrap_small (by omega) (by omega)]
   exact⟨⟨_,1,rfl,by omega,by rw[hnext];exact hI⟩,by simp[upTo];omega⟩
 ·rw[←hI,drop_all hx.len (by omega),lockFrom]
theorem cRefLockCheck{H:Heap}{a:O}{l c:Nat}{xs:List Pin}(hx:Pins H a l xs):Spec Tryz.prog 159 [.slice a l c] H fun v _=>v=i64 (lockCheck xs):=by
 refine Tryzvc Tryz.func159 (by kernel_rfl) (by kernel_rfl) _ rfl (fun base K=>vc108 a l c base H K) fun base hb=> ?_
 have hl:=hx.len
 refine⟨fun h=> ?_,fun h=> ?_⟩
 ·rw[lockCheck,if_pos (by omega)]
 have hW:lockCheck xs=lockFrom 0 xs:=by rw[lockCheck,if_neg (by omega)]
 rw[hW]
 refine⟨fun vs _=>∃(d m:Int)(i:Nat),vs=[i64 d,i64 m,i64 i]/\i<=l/\lockFrom m (xs.drop i)=lockFrom 0 xs,upTo l 2,⟨0,0,0,rfl,by omega,rfl⟩,fun d m n H' hN hI=> ?_⟩
 obtain⟨d',m',i,hvs,hi,hI⟩:=hI
 obtain⟨rfl,rfl,rfl⟩:d=d'/\m=m'/\n=(i:Int):=by simpa using hvs
 refine⟨fun hlt=>hx.pin hN.ext (by omega) hlt fun p hp=> ?_,fun hge=> ?_⟩
 ·rw[Int.toNat_natCast] at hp
  rw[drop_at hp,lockFrom] at hI
  intro _
  refine(cIn _ _ _).bool1 fun H1 _ _=>⟨fun h1=> ?_,fun h1=>(cIn _ _ _).bool1 fun H2 _ _=>⟨fun h2=> ?_,fun h2=>⟨fun h3=> ?_,fun h3=> ?_⟩⟩⟩
  ·have:¬(1<=p.name/\p.name<=20):=by simpa[inR] using h1
   rw[if_pos (by unfold badPin;omega)] at hI;rw[←hI]
  ·have:¬(1<=p.ver/\p.ver<=99):=by simpa[inR] using h2
   rw[if_pos (by unfold badPin;omega)] at hI;rw[←hI]
  ·have h1':1<=p.name/\p.name<=20:=by simpa[inR] using h1
   have h2':1<=p.ver/\p.ver<=99:=by simpa[inR] using h2
   rw[if_neg (by unfold badPin;omega),if_pos h3] at hI;rw[←hI]
  ·have h1':1<=p.name/\p.name<=20:=by simpa[inR] using h1
   have h2':1<=p.ver/\p.ver<=99:=by simpa[inR] using h2
   rw[if_neg (by unfold badPin;omega),if_neg h3] at hI
   rintro r rfl
   rw[wrap_small (by omega) (by omega)]
   exact⟨⟨_,_,i+1,rfl,by omega,hI⟩,by simp[upTo];omega⟩
 ·rw[←hI,drop_all hx.len (by omega),lockFrom]
def pinIdx(k:Int):Int->List Pin->Int
 |_,[]=> -1
 |i,p::r=>if p.name=k then i else pinIdx k (i+1) r
theorem pinIdx_spec(k:Int):∀(xs:List Pin)(i:Int),0<=i->(pinIdx k i xs= -1/\find xs k=0/\∀p∈xs,p.name≠k)∨ ∃(j:Nat)(p:Pin),pinIdx k i xs=i+j/\xs[j]?=some p/\find xs k=p.ver/\p.name=k
 | [],i,_=> .inl ⟨rfl,rfl,by simp⟩
 |p::r,i,hi=>by
  unfold pinIdx
  by_cases e:p.name=k
  ·rw[if_pos e];exact .inr ⟨0,p,by simp,rfl,by rw[find,if_pos e],e⟩
  ·rw[if_neg e]
   rcases pinIdx_spec k r (i+1) (by omega) with⟨h1,h2,h3⟩|⟨j,q,h1,h2,h3,h4⟩
   ·exact .inl ⟨h1,by rw[find,if_neg e,h2],fun q hq=>by rcases List.mem_cons.1 hq with rfl|hq;exact e;exact h3 q hq⟩
   ·exact .inr ⟨j+1,q,by rw[h1];omega,by simpa using h2,by rw[find,if_neg e,h3],h4⟩
theorem cPinIdx{H:Heap}{a:O}{l c:Nat}{xs:List Pin}(hx:Pins H a l xs){k:Int}{p:Nat}(hp:H.cell p 0=some (i64 k)):
  Spec Tryz.prog 147 [.slice a l c,.func (.func 148) #[] #[.pointer (some ⟨p,0,none⟩)]] H fun v _=>v=i64 (pinIdx k 0 xs):=by
 have h114:∀ {H:Heap} {n v:Int},H.cell p 0=some (i64 k)->Spec Tryz.prog 148 [.agg #[.int .i64 n,.int .i64 v],.pointer (some ⟨p,0,none⟩)] H fun r _=>r= .bool (decide (n=k)):=by
  intro H n v hp
  refine Tryzvc Tryz.func148 (by kernel_rfl) (by kernel_rfl) _ rfl (fun base K=>vc114 n v p base H K) fun base hb=> ?_
  intro _
  exact⟨k,hp,rfl⟩
 refine Tryzvc Tryz.func147 (by kernel_rfl) (by kernel_rfl) _ rfl (fun base K=>vc113 a l c p base H K) fun base hb=> ?_
 have hle:=hx.le
 refine⟨fun vs _=>∃(d:Int)(i:Nat),vs=[i64 d,i64 i]/\i<=l/\pinIdx k i (xs.drop i)=pinIdx k 0 xs,upTo l 1,⟨0,0,rfl,by omega,rfl⟩,fun d n H' hN hI=> ?_⟩
 obtain⟨d',i,hvs,hi,hI⟩:=hI
 obtain⟨rfl,rfl⟩:d=d'/\n=(i:Int):=by simpa using hvs
 refine⟨fun hlt=>hx.pin hN.ext (by omega) hlt fun q hq=> ?_,fun hge=> ?_⟩
 ·rw[Int.toNat_natCast] at hq
  rw[drop_at hq,pinIdx] at hI
  refine(h114 (Heap.cell_next hN.ext hp)).bool1 fun H2 _ _=>⟨fun h=> ?_,fun h=> ?_⟩
  ·rw[if_pos (by simpa using h)] at hI;rw[←hI]
  ·rw[if_neg (by simpa using h)] at hI
   rintro r rfl
   rw[wrap_in (by omega) (by omega)]
   exact⟨⟨_,i+1,rfl,by omega,hI⟩,by simp[upTo];omega⟩
 ·rw[←hI,drop_all hx.len (by omega),pinIdx]
theorem cFind{H:Heap}{a:O}{l c:Nat}{xs:List Pin}(hx:Pins H a l xs)(k:Int):Spec Tryz.prog 75 [.slice a l c,i64 k] H fun v _=>v=i64 (find xs k):=by
 refine Tryzvc Tryz.func75 (by kernel_rfl) (by kernel_rfl) _ rfl (fun base K=>vc42 a l c k base H K) fun base hb=> ?_
 intro b
 refine⟨rfl,fun Hl hNl hb=> ?_⟩
 refine(cPinIdx (hx.ext' hNl.ext) (k:=k) (p:=b) (by unfold Heap.cell;rw[hb.1];rfl)).mono fun v H2 e2 hv=>⟨_,hv,fun H' hN _=> ?_⟩
 rcases pinIdx_spec k xs 0 (by omega) with⟨h1,h2,_⟩|⟨j,p,h1,h2,h3,_⟩
 ·rw[h1,h2];exact⟨fun _=>rfl,fun h=>absurd (by omega) h⟩
 ·rw[h1]
  have hj:=(List.getElem?_eq_some_iff.1 h2).1
  have hl:=hx.len
  refine⟨fun h=>by omega,fun _=>hx.pinVer hN.ext (by omega) (by omega) fun q hq=> ?_⟩
  rw[show(0+(j:Int)).toNat=j from by omega,h2] at hq
  obtain rfl:=Option.some.inj hq
  rw[h3]
theorem get_two{x y n:Int}{k:Nat}(hk:k<2)(h:n=if k=0 then x else y):([Value.int .i64 x,Value.int .i64 y]:List Value)[k*1]?=some (.int .i64 n):=by
 subst h
 match k,hk with
 |0,_=>rfl
 |1,_=>rfl
theorem cRuleCheck{H:Heap}{a:O}{l c:Nat}{rs:List Rule}(hx:Rules H a l rs):Spec Tryz.prog 222 [.slice a l c] H fun v _=>v=i64 (rulesCheck rs):=by
 refine Tryzvc Tryz.func222 (by kernel_rfl) (by kernel_rfl) _ rfl (fun base K=>vc39 a l c base H K) fun base hb=> ?_
 have hl:=hx.len
 refine⟨fun h=> ?_,fun h=> ?_⟩
 ·rw[rulesCheck,if_pos (by omega)]
 have hW:rulesCheck rs=rulesFrom rs:=by rw[rulesCheck,if_neg (by omega)]
 rw[hW]
 refine⟨fun vs _=>∃(d:Int)(i:Nat),vs=[i64 d,i64 i]/\i<=l/\rulesFrom (rs.drop i)=rulesFrom rs,upTo l 1,⟨0,0,rfl,by omega,rfl⟩,fun d n H' hN hI=> ?_⟩
 obtain⟨d',i,hvs,hi,hI⟩:=hI
 obtain⟨rfl,rfl⟩:d=d'/\n=(i:Int):=by simpa using hvs
 refine⟨fun hlt=>hx.rule hN.ext (by omega) hlt fun p hp=> ?_,fun hge=> ?_⟩
 ·rw[Int.toNat_natCast] at hp
  rw[drop_at hp,rulesFrom] at hI
  intro _
  refine⟨fun vs _=>∃(d:Int)(j:Nat),vs=[i64 d,i64 j]/\j<=2/\(0<j->1<=p.name/\p.name<=20)/\(1<j->1<=p.wth/\p.wth<=20),upTo 2 1,⟨_,0,rfl,by omega,by omega,by omega⟩,fun d2 m H2 hN2 hI2=> ?_⟩
  obtain⟨d3,j,hvs2,hj,hj0,hj1⟩:=hI2
  obtain⟨rfl,rfl⟩:d2=d3/\m=(j:Int):=by simpa using hvs2
  refine⟨fun hlt2=>⟨by omega,hlt2,(if j=0 then p.name else p.wth),?_,fun g1=> ?_,fun g1=>⟨fun g2=> ?_,fun g2=> ?_⟩⟩,fun hge2=> ?_⟩
  ·rw[Int.toNat_natCast];exact get_two (by omega) rfl
  ·rw[if_pos (by unfold badRule;split at g1<;>omega)] at hI;rw[←hI]
  ·rw[if_pos (by unfold badRule;split at g2<;>omega)] at hI;rw[←hI]
  ·rintro r rfl
   rw[wrap_small (by omega) (by omega)]
   refine⟨rfl,⟨_,j+1,rfl,by omega,fun _=> ?_,fun _=> ?_⟩,by simp[upTo];omega⟩
   ·by_cases e:j=0
    ·subst e;simp at g1 g2;omega
    ·exact hj0 (by omega)
   ·have e:j≠0:=by omega
    simp[e] at g1 g2;omega
  ·obtain rfl:j=2:=by omega
   have k0:=hj0 (by omega)
   have k1:=hj1 (by omega)
   refine⟨fun vs _=>∃(d:Int)(j:Nat),vs=[i64 d,i64 j]/\j<=2/\(0<j->1<=p.ver/\p.ver<=99)/\(1<j->1<=p.least/\p.least<=99),upTo 2 1,⟨_,0,rfl,by omega,by omega,by omega⟩,fun d2 m H2 hN2 hI2=> ?_⟩
   obtain⟨d3,j,hvs2,hj,hj0,hj1⟩:=hI2
   obtain⟨rfl,rfl⟩:d2=d3/\m=(j:Int):=by simpa using hvs2
   refine⟨fun hlt2=>⟨by omega,hlt2,(if j=0 then p.ver else p.least),?_,fun g1=> ?_,fun g1=>⟨fun g2=> ?_,fun g2=> ?_⟩⟩,fun hge2=> ?_⟩
   ·rw[Int.toNat_natCast];exact get_two (by omega) rfl
   ·rw[if_pos (by unfold badRule;split at g1<;>omega)] at hI;rw[←hI]
   ·rw[if_pos (by unfold badRule;split at g2<;>omega)] at hI;rw[←hI]
   ·rintro r rfl
    rw[wrap_small (by omega) (by omega)]
    refine⟨rfl,⟨_,j+1,rfl,by omega,fun _=> ?_,fun _=> ?_⟩,by simp[upTo];omega⟩
    ·by_cases e:j=0
     ·subst e;simp at g1 g2;omega
     ·exact hj0 (by omega)
    ·have e:j≠0:=by omega
     simp[e] at g1 g2;omega
   ·obtain rfl:j=2:=by omega
    have k2:=hj0 (by omega)
    have k3:=hj1 (by omega)
    rw[if_neg (by unfold badRule;omega)] at hI
    refine⟨fun h=> ?_,fun h=> ?_⟩
    ·rw[if_pos h] at hI;rw[←hI]
    ·rw[if_neg h] at hI
     rintro r rfl
     rw[wrap_small (by omega) (by omega)]
     exact⟨⟨_,i+1,rfl,by omega,hI⟩,by simp[upTo];omega⟩
 ·rw[←hI,drop_all hx.len (by omega),rulesFrom]
theorem cBroken{H:Heap}{a a':O}{l c l' c':Nat}{xs:List Pin}{rs:List Rule}(hx:Pins H a l xs)(hr:Rules H a' l' rs):
  Spec Tryz.prog 186 [.slice a l c,.slice a' l' c'] H fun v _=>v= .tuple #[i64 (broken xs rs),i64 (brokenErr xs rs)]:=by
 refine Tryzvc Tryz.func186 (by kernel_rfl) (by kernel_rfl) _ rfl (fun base K=>vc34 a a' l c l' c' base H K) fun base hb=> ?_
 refine(cLockCheck hx).int1 fun H1 e1 hN1=>⟨fun h=> ?_,fun h=>(cRuleCheck (hr.ext' e1)).int1 fun H2 e2 hN2=>⟨fun h2=> ?_,fun h2=> ?_⟩⟩
 ·have e:brokenErr xs rs=lockCheck xs:=by rw[brokenErr,if_neg h]
  rw[broken,e,if_neg h]
 ·have e:brokenErr xs rs=rulesCheck rs:=by rw[brokenErr,if_pos (Decidable.not_not.1 h)]
  rw[broken,e,if_neg h2]
 have e:brokenErr xs rs=0:=by rw[brokenErr,if_pos (Decidable.not_not.1 h)];exact Decidable.not_not.1 h2
 have hW:broken xs rs=brokenFrom xs 0 rs:=by rw[broken,if_pos e]
 rw[e,hW]
 have hle:=hr.le
 refine⟨fun vs _=>∃(d1 d2:Int)(i:Nat),vs=[i64 d1,i64 d2,i64 i]/\i<=l'/\brokenFrom xs i (rs.drop i)=brokenFrom xs 0 rs,upTo l' 2,⟨0,0,0,rfl,by omega,rfl⟩,fun d1 d2 n H' hN hI=> ?_⟩
 obtain⟨d1',d2',i,hvs,hi,hI⟩:=hI
 obtain⟨rfl,rfl,rfl⟩:d1=d1'/\d2=d2'/\n=(i:Int):=by simpa using hvs
 refine⟨fun hlt=>hr.rule hN.ext (by omega) hlt fun p hp=> ?_,fun hge=> ?_⟩
 ·rw[Int.toNat_natCast] at hp
  rw[drop_at hp,brokenFrom] at hI
  intro _
  refine(cFind (hx.ext' hN.ext) _).int1 fun H3 e3 hN3=>⟨fun h3=>(cFind ((hx.ext' hN.ext).ext' e3) _).int1 fun H4 e4 hN4=>⟨fun h4=> ?_,fun h4=> ?_⟩,fun h3=> ?_⟩
  ·rw[if_pos ⟨h3,h4⟩] at hI;rw[←hI]
  ·rw[if_neg (fun h=>h4 h.2)] at hI
   rintro r rfl
   rw[wrap_in (by omega) (by omega)]
   exact⟨⟨_,_,i+1,rfl,by omega,hI⟩,by simp[upTo];omega⟩
  ·rw[if_neg (fun h=>h3 h.1)] at hI
   rintro r rfl
   rw[wrap_in (by omega) (by omega)]
   exact⟨⟨_,_,i+1,rfl,by omega,hI⟩,by simp[upTo];omega⟩
 ·rw[←hI,drop_all hr.len (by omega),brokenFrom]
open Go Go.Proofs
theorem drop_eq_iff{α:Type}{xs ys:List α}{k:Nat}{p q:α}(hp:xs[k]?=some p)(hq:ys[k]?=some q):(xs.drop k=ys.drop k)↔(p=q/\xs.drop (k+1)=ys.drop (k+1)):=by
 rw[drop_at hp,drop_at hq];simp
theorem cEqPins{H:Heap}{a a':O}{l c l' c':Nat}{xs ys:List Pin}(hx:Pins H a l xs)(hy:Pins H a' l' ys):
  Spec Tryz.prog 47 [.slice a l c,.slice a' l' c'] H fun v _=>v= .bool (decide (xs=ys)):=by
 refine Tryzvc Tryz.func47 (by kernel_rfl) (by kernel_rfl) _ rfl (fun base K=>vc41 a a' l c l' c' base H K) fun base hb=> ?_
 have hxl:=hx.len
 have hyl:=hy.len
 have hle:=hx.le
 refine⟨fun hne=> ?_,fun he=> ?_⟩
 ·rw[decide_eq_false];rintro rfl;omega
 ·refine⟨fun vs _=>∃(b:Bool)(k:Nat),vs=[.bool b,i64 k]/\k<=l/\(xs.drop k=ys.drop k↔xs=ys),upTo l 1,⟨false,0,rfl,by omega,by simp⟩,fun b n H' hN hI=> ?_⟩
  obtain⟨b',k,hvs,hk,hI⟩:=hI
  obtain⟨rfl,rfl⟩:b=b'/\n=(k:Int):=by simpa using hvs
  refine⟨fun hlt=>hx.pin hN.ext (by omega) hlt fun p hp=>hy.pin hN.ext (by omega) (by omega) fun q hq=>⟨_,neq48 _ _ _ _,fun h=> ?_,fun h=> ?_⟩,fun hge=> ?_⟩
  ·rw[Int.toNat_natCast] at hp hq
   rw[drop_eq_iff hp hq] at hI
   rw[decide_eq_false]
   intro e
   obtain⟨rfl,_⟩:=hI.2 e
   simp at h
  ·rw[Int.toNat_natCast] at hp hq
   rw[drop_eq_iff hp hq] at hI
   have hpq:p=q:=by
    cases p;cases q;simp at h;simp[h]
   rintro r rfl
   rw[wrap_in (by omega) (by omega)]
   exact⟨⟨b,k+1,rfl,by omega,by rw[←hI];simp[hpq]⟩,by simp[upTo];omega⟩
  ·rw[decide_eq_true]
   exact hI.1 (by rw[drop_all hxl (by omega),drop_all hyl (by omega)])
theorem pins_of_row{base:Nat}{H:Heap}{e:TypeId}{a:O}{n c:Nat}{xs:List Pin}(h:Row base H e 2 a n c (xs.flatMap pinCells)):Pins H a n xs:=sl_of_rowE pinCells_len (by omega) h
theorem one_pins(xs:List Pin):allOne (xs.flatMap pinCells)=true:=allOne_flat (fun _=>rfl) xs
open Classical in
open Go Go.Proofs
open Go Go.Proofs
open Go.Value renaming int → I, slice → S, bool → B, agg → A, tuple → T, pointer → P, string → Str
open Go.IntKind renaming i64 → Z, wrap → W
open Go.Addr renaming mk → D
open Go.Vg.Bx renaming mk → J
open Go.Vg renaming Next → X, Spec → Y, SpecO → YO
open Go.Vg.Heap renaming cell → C
open Int renaming toNat → N
theorem vc54(a a':O)(l c l' c':Nat)(base:Nat)(H:Heap)(K:KT):
 (fV TryzMutsJ Tryz.f57 base H [.v (S a l c),.v (S a' l' c')] [] K)=(
 ∃(b:LI)(d:LM),b [S none 0 0,I Z 0,I Z 0] H/\∀(e:O)(g h:Nat)(i j:Int)(k:Heap),X base H k->b [S e g h,I Z i,I Z j] k->(j<2->0<=j/\j<2/\∃m n o,List.get?Internal [S a l c,S a' l' c'] (N j*1)=some (S m n o)/\Y Tryz.prog 140 [S m n o] k fun p q=>∃r,p=I Z r/\(X base k q->(¬r=0->K (T #[S none 0 0,I Z r]) [] q)/\(¬¬r=0->∀s:Int,s=W Z (j+1)->b [S e g h,I Z i,I Z s] q/\d [S e g h,I Z i,I Z s]<d [S e g h,I Z i,I Z j])))/\(¬j<2->∃(m:LI)(n:LM),m [S none 0 0,I Z 0] k/\∀(o:O)(p q:Nat)(r:Int)(s:Heap),X base H s->m [S o p q,I Z r] s->(r<(l:Int)->∃t u,a=some (D t u none)/\0<=r/\r<(l:Int)/\∃v w:Int,(C s t (u+N r*2)=some (I Z v)/\C s t (u+N r*2+1)=some (I Z w)/\True)/\∀x:Nat,Y Tryz.prog 75 [S a' l' c',I Z v] s fun y z=>∃a1,y=I Z a1/\(X base s z->(a1=0->∀b1:Nat,∃c1:List Value,Row base z 182 3 o p q c1/\(p+1)*24<=140737488355328/\p+1<=9223372036854775807/\∀(d1:O)(e1:Nat)(f1:Heap),Grew base z f1 o q d1 e1 (p+1)->Row base f1 182 3 d1 (p+1) e1 (c1++[I Z 2,I Z v,I Z 0])->∀g1:Int,g1=W Z (r+1)->m [S d1 (p+1) e1,I Z g1] f1/\n [S d1 (p+1) e1,I Z g1]<n [S o p q,I Z r])/\(¬a1=0->∀b1:Int,b1=W Z (r+1)->m [S o p q,I Z b1] z/\n [S o p q,I Z b1]<n [S o p q,I Z r])))/\(¬r<(l:Int)->∃(t:LI)(u:LM),t [S o p q,I Z 0] s/\∀(v:O)(w x:Nat)(y:Int)(z:Heap),X base H z->t [S v w x,I Z y] z->(y<(l':Int)->∃a1 b1,a'=some (D a1 b1 none)/\0<=y/\y<(l':Int)/\∃c1 d1:Int,(C z a1 (b1+N y*2)=some (I Z c1)/\C z a1 (b1+N y*2+1)=some (I Z d1)/\True)/\∀e1:Nat,Y Tryz.prog 75 [S a l c,I Z c1] z fun f1 g1=>∃h1,f1=I Z h1/\(X base z g1->(h1=d1->∀i1:Int,i1=W Z (y+1)->t [S v w x,I Z i1] g1/\u [S v w x,I Z i1]<u [S v w x,I Z y])/\(¬h1=d1->(h1=0->∀i1:Nat,∃j1:List Value,Row base g1 182 3 v w x j1/\(w+1)*24<=140737488355328/\w+1<=9223372036854775807/\∀(k1:O)(l1:Nat)(m1:Heap),Grew base g1 m1 v x k1 l1 (w+1)->Row base m1 182 3 k1 (w+1) l1 (j1++[I Z 1,I Z c1,I Z d1])->∀n1:Int,n1=W Z (y+1)->t [S k1 (w+1) l1,I Z n1] m1/\u [S k1 (w+1)
 l1,I Z n1]<u [S v w x,I Z y])/\(¬h1=0->∀i1:Nat,∃j1:List Value,Row base g1 182 3 v w x j1/\(w+1)*24<=140737488355328/\w+1<=9223372036854775807/\∀(k1:O)(l1:Nat)(m1:Heap),Grew base g1 m1 v x k1 l1 (w+1)->Row base m1 182 3 k1 (w+1) l1 (j1++[I Z 3,I Z c1,I Z d1])->∀n1:Int,n1=W Z (y+1)->t [S k1 (w+1) l1,I Z n1] m1/\u [S k1 (w+1) l1,I Z n1]<u [S v w x,I Z y]))))/\(¬y<(l':Int)->K (T #[S v w x,I Z 0]) [] z)))):=by kernel_rfl
theorem vc120(n v:Int)(p:Nat)(base:Nat)(H:Heap)(K:KT):
 (fV TryzMutsJ Tryz.f234 base H [.v (A #[I Z n,I Z v]),.v (.pointer (some ⟨p,0,none⟩))] [] K)=(
 ∀a:Nat,∃b,C H p 1=some (I Z b)/\K (B (decide (n=b))) [] H):=by kernel_rfl
theorem vc113b(a:O)(l c:Nat)(p:Nat)(base:Nat)(H:Heap)(K:KT):
 (fV TryzMutsJ Tryz.f147 base H [.v (S a l c),.v (.func (.func 234) #[] #[.pointer (some ⟨p,0,none⟩)])] [] K)=(
 ∃(b:LI)(d:LM),b [I Z 0,I Z 0] H/\∀(e g:Int)(h:Heap),X base H h->b [I Z e,I Z g] h->(g<(l:Int)->∃i j,a=some (D i j none)/\0<=g/\g<(l:Int)/\∃k m:Int,(C h i (j+N g*2)=some (I Z k)/\C h i (j+N g*2+1)=some (I Z m)/\True)/\Y Tryz.prog 234 [A #[I Z k,I Z m],P (some (D p 0 none))] h fun n o=>∃q,n=B q/\(X base h o->(q=true->K (I Z g) [] o)/\(q=false->∀r:Int,r=W Z (g+1)->b [I Z e,I Z r] o/\d [I Z e,I Z r]<d [I Z e,I Z g])))/\(¬g<(l:Int)->K (I Z (-1)) [] h)):=by kernel_rfl
theorem vc121(a:O)(l c:Nat)(base:Nat)(H:Heap)(K:KT):
 (fV TryzMutsJ Tryz.f163 base H [.v (S a l c)] [] K)=(
 ∃b,RunsTo Tryz.prog (binRun BinOp.eql 22 (Operand.tmp 3) (Operand.const (S none 0 0)) (S a l c) (S none 0 0)) (B b)/\(b=true->K (S none 0 0) [] H)/\(¬b=true->∀(d:Nat)(e:Heap),X base H e->H d=none->e d=some (boxKB 91 [])->∃g h:List Value,Row base e 91 2 (some (D d 0 none)) 0 0 g/\List.length h=l*2/\allOne h=true/\(l=0∨∃i j,a=some (D i j none)/\cellsAt e i j 0 h)/\(0+l)*16<=140737488355328/\0+l<=9223372036854775807/\∀(i:O)(j:Nat)(k:Heap),Grew base e k (some (D d 0 none)) 0 i j (0+l)->Row base k 91 2 i (0+l) j (g++h)->K (S i (0+l) j) [] k)):=by kernel_rfl
theorem vc55(a:O)(l c:Nat)(kd n v:Int)(base:Nat)(H:Heap)(K:KT):
 (fV TryzMutsJ Tryz.f204 base H [.v (S a l c),.v (A #[I Z kd,I Z n,I Z v])] [] K)=(
 ∀b:Nat,(fun w1:LB=>Y Tryz.prog 140 [S a l c] H fun d e=>∃g,d=I Z g/\(X base H e->(¬g=0->K (T #[S none 0 0,I Z g]) [] e)/\(¬¬g=0->∃h:Prop,((kd<1->w1=w1/\SubH e e/\h)/\(¬kd<1->w1=w1/\SubH e e/\(h↔3<kd)))/\(h->K (T #[S none 0 0,I Z 4]) [] e)/\(¬h->∃i:Prop,((n<1->w1=w1/\SubH e e/\i)/\(¬n<1->(20<n->w1=w1/\SubH e e/\i)/\(¬20<n->(¬kd=2->(v<1->w1=w1/\SubH e e/\i)/\(¬v<1->(99<v->w1=w1/\SubH e e/\i)/\(¬99<v->(kd=2->w1=w1/\SubH e e/\(i↔¬v=0))/\(¬kd=2->w1=w1/\SubH e e/\¬i))))/\(¬¬kd=2->(kd=2->w1=w1/\SubH e e/\(i↔¬v=0))/\(¬kd=2->w1=w1/\SubH e e/\¬i)))))/\(i->K (T #[S none 0 0,I Z 3]) [] e)/\(¬i->true=true/\∀j:Heap,X 0 e j->j b=some (boxKB 182 [I Z kd,I Z n,I Z v])/\True->Y Tryz.prog 147 [S a l c,Value.func (Fn.func 234) #[] #[P (some (D b 0 none))]] j fun k m=>∃o,k=I Z o/\∀p,X base e p->(∀(q:Nat)(r:KB),m q=some r->(∀s:Bx,s∈w1->q≠Bx.b s)->p q=some r)->∃q:Prop,((kd=1->w1=w1/\SubH p p/\(q↔0<=o))/\(¬kd=1->w1=w1/\SubH p p/\¬q))/\(q->K (T #[S none 0 0,I Z 6]) [] p)/\(¬q->∃r:Prop,((¬kd=1->w1=w1/\SubH p p/\(r↔o<0))/\(¬¬kd=1->w1=w1/\SubH p p/\¬r))/\(r->K (T #[S none 0 0,I Z 5]) [] p)/\(¬r->Y Tryz.prog 163 [S a l c] p fun s t=>∃u w x,s=S u w x/\(X base p t->(kd=1->((w:Int)=12->K (T #[S none 0 0,I Z 2]) [] t)/\(¬(w:Int)=12->∃(y:LI)(z:LM),y [I Z 0] t/\∀(a1:Int)(b1:Heap),X base H b1->y [I Z a1] b1->(a1<(w:Int)->∃c1 d1,u=some (D c1 d1 none)/\0<=a1/\a1<(w:Int)/\∃e1,C b1 c1 (d1+N a1*2)=some (I Z e1)/\(e1<n->∀f1:Int,f1=W Z (a1+1)->[[I Z kd,I Z n,I Z v]]=[[I Z kd,I Z n,I Z v]]/\y [I Z f1] b1/\z [I Z f1]<z [I Z a1])/\(¬e1<n->∀(f1:Nat)(g1:Heap),X base b1 g1->b1 f1=none->g1 f1=some (boxKB 91 [I Z n,I Z v])->∃(h1 i1:List Value)(j1:Nat),a1=(j1:Int)/\j1<=w/\w<=1000000/\Row base g1 91 2 u w x h1/\allOne h1=true/\List.length i1=2/\allOne i1=true/\g1 f1=some (boxKB 91 i1)/\(x≠0->u≠some (D f1 0 none))/\∀(k1:O)(l1:Nat)(m1:Heap),Grew base g1 m1 u x k1 l1 (w+1)->Row base m1 91 2 k1 (w+1) l1 (List.take (j1*2) h1++i1++List.drop (j1*2) h1)->K (T
 #[S k1 (w+1) l1,I Z 0]) [] m1))/\(¬a1<(w:Int)->∀(c1:Nat)(d1:Heap),X base b1 d1->b1 c1=none->d1 c1=some (boxKB 91 [I Z n,I Z v])->∃(e1 f1:List Value)(g1:Nat),a1=(g1:Int)/\g1<=w/\w<=1000000/\Row base d1 91 2 u w x e1/\allOne e1=true/\List.length f1=2/\allOne f1=true/\d1 c1=some (boxKB 91 f1)/\(x≠0->u≠some (D c1 0 none))/\∀(h1:O)(i1:Nat)(j1:Heap),Grew base d1 j1 u x h1 i1 (w+1)->Row base j1 91 2 h1 (w+1) i1 (List.take (g1*2) e1++f1++List.drop (g1*2) e1)->K (T #[S h1 (w+1) i1,I Z 0]) [] j1)))/\(¬kd=1->(kd=2->∀y:Int,y=W Z (o+1)->∃(z:List Value)(a1 b1:Nat),o=(a1:Int)/\y=(b1:Int)/\a1<=b1/\b1<=w/\w<=1000000/\Row base t 91 2 u w x z/\allOne z=true/\∀c1:Heap,Grew base t c1 u x u x (a1+(w-b1))->Row base c1 91 2 u (a1+(w-b1)) x (List.take (a1*2) z++List.drop (b1*2) z)->K (T #[S u (a1+(w-b1)) x,I Z 0]) [] c1)/\(¬kd=2->(kd=3->∃y z,u=some (D y z none)/\0<=o/\o<(w:Int)/\∃a1:KB,t y=some a1/\KB.free a1=true/\base<=y/\z+N o*2+1+1<=KB.size a1/\∀b1:Heap,Upd t y (z+N o*2+1) a1 [I Z v] b1->K (T #[S u w x,I Z 0]) [] b1)/\(¬kd=3->K (T #[S u w x,I Z 0]) [] t))))))))))) [J b false 182 [I Z kd,I Z n,I Z v]]):=by kernel_rfl
open Go Go.Proofs
theorem vc68(id:Int)(a:O)(l c:Nat)(base:Nat)(H:Heap)(K:KT):
 (fV TryzMutsJ Tryz.f167 base H [.v (A #[I Z id,S a l c])] [] K)=(
 ∀b:Nat,(fun w1:LB=>∃d:Prop,((id<1->w1=w1/\SubH H H/\d)/\(¬id<1->w1=w1/\SubH H H/\(d↔6<id)))/\(d->K (I Z 3) [] H)/\(¬d->Y Tryz.prog 140 [S a l c] H fun e g=>∃h,e=I Z h/\(X base H g->K (I Z h) [] g))) [J b false 24 [I Z id,S a l c]]):=by kernel_rfl
theorem vc86(id id':Int)(a a':O)(l c l' c':Nat)(base:Nat)(H:Heap)(K:KT):
 (fV TryzMutsJ Tryz.f56 base H [.v (A #[I Z id,S a l c]),.v (A #[I Z id',S a' l' c'])] [] K)=(
 ∀b d:Nat,(fun w1:LB=>∃e:Prop,((¬id=id'->w1=w1/\SubH H H/\e)/\(¬¬id=id'->w1=w1/\SubH H H/\(e↔¬(l:Int)=(l':Int))))/\(e->K (B false) [] H)/\(¬e->∃(g:LI)(h:LM),g [B false,I Z 0] H/\∀(i:Bool)(j:Int)(k:Heap),X base H k->g [B i,I Z j] k->(j<(l:Int)->∃m n,a=some (D m n none)/\0<=j/\j<(l:Int)/\∃o p:Int,(C k m (n+N j*2)=some (I Z o)/\C k m (n+N j*2+1)=some (I Z p)/\True)/\∀q:Nat,∃r s,a'=some (D r s none)/\0<=j/\j<(l':Int)/\∃t u:Int,(C k r (s+N j*2)=some (I Z t)/\C k r (s+N j*2+1)=some (I Z u)/\True)/\∃v,RunsTo Tryz.prog (binRun BinOp.neq 91 (Operand.tmp 33) (Operand.tmp 34) (A #[I Z t,I Z u]) (A #[I Z o,I Z p])) (B v)/\(v=true->K (B false) [] k)/\(¬v=true->∀w:Int,w=W Z (j+1)->[[I Z id,S a l c],[I Z id',S a' l' c']]=[[I Z id,S a l c],[I Z id',S a' l' c']]/\g [B i,I Z w] k/\h [B i,I Z w]<h [B i,I Z j]))/\(¬j<(l:Int)->K (B true) [] k))) [J b false 24 [I Z id,S a l c],J d false 24 [I Z id',S a' l' c']]):=by kernel_rfl
theorem vc50(a:O)(l c:Nat)(base:Nat)(H:Heap)(K:KT):
 (fV TryzMutsJ Tryz.f102 base H [.v (S a l c)] [] K)=(
 (40<(l:Int)->K (I Z 2) [] H)/\(¬40<(l:Int)->∃(b:LI)(d:LM),b [I Z 0,I Z 0] H/\∀(e g:Int)(h:Heap),X base H h->b [I Z e,I Z g] h->(g<(l:Int)->∃i j,a=some (D i j none)/\0<=g/\g<(l:Int)/\∃(k m:Int)(n o:Bool)(p:Int)(q:O)(r s:Nat),(C h i (j+N g*6)=some (I Z k)/\C h i (j+N g*6+1)=some (I Z m)/\C h i (j+N g*6+2)=some (B n)/\C h i (j+N g*6+3)=some (B o)/\C h i (j+N g*6+4)=some (I Z p)/\C h i (j+N g*6+5)=some (S q r s)/\True)/\∀t:Nat,(fun w1:LB=>∃u:Prop,((k<0->w1=w1/\SubH h h/\u)/\(¬k<0->(6<=k->w1=w1/\SubH h h/\u)/\(¬6<=k->(m<1->w1=w1/\SubH h h/\u)/\(¬m<1->w1=w1/\SubH h h/\(u↔200<m)))))/\(u->K (I Z 3) [] h)/\(¬u->∃v:Prop,((n=true->(¬p=0->w1=w1/\SubH h h/\v)/\(¬¬p=0->(0<(r:Int)->w1=w1/\SubH h h/\v)/\(¬0<(r:Int)->(n=false->w1=w1/\SubH h h/\(v↔o=true))/\(¬n=false->w1=w1/\SubH h h/\¬v))))/\(n=false->(n=false->w1=w1/\SubH h h/\(v↔o=true))/\(¬n=false->w1=w1/\SubH h h/\¬v)))/\(v->K (I Z 4) [] h)/\(¬v->(n=true->∀w:Int,w=W Z (g+1)->b [I Z e,I Z w] h/\d [I Z e,I Z w]<d [I Z e,I Z g])/\(n=false->Y Tryz.prog 167 [A #[I Z p,S q r s]] h fun w x=>∃y,w=I Z y/\(X base h x->(¬y=0->K (I Z y) [] x)/\(¬¬y=0->∀z:Int,z=W Z (g+1)->b [I Z e,I Z z] x/\d [I Z e,I Z z]<d [I Z e,I Z g])))))) [J t false 74 [I Z k,I Z m,B n,B o,I Z p,S q r s]])/\(¬g<(l:Int)->K (I Z 0) [] h))):=by kernel_rfl
theorem vc52(a:O)(l c:Nat)(base:Nat)(H:Heap)(K:KT):
 (fV TryzMutsJ Tryz.f42 base H [.v (S a l c)] [] K)=(
 ∃b,RunsTo Tryz.prog (binRun BinOp.eql 39 (Operand.tmp 3) (Operand.const (S none 0 0)) (S a l c) (S none 0 0)) (B b)/\(b=true->K (S none 0 0) [] H)/\(¬b=true->∀(d:Nat)(e:Heap),X base H e->H d=none->e d=some (boxKB 74 [])->∃g h:List Value,Row base e 74 6 (some (D d 0 none)) 0 0 g/\List.length h=l*6/\allOne h=true/\(l=0∨∃i j,a=some (D i j none)/\cellsAt e i j 0 h)/\(0+l)*56<=140737488355328/\0+l<=9223372036854775807/\∀(i:O)(j:Nat)(k:Heap),Grew base e k (some (D d 0 none)) 0 i j (0+l)->Row base k 74 6 i (0+l) j (g++h)->K (S i (0+l) j) [] k)):=by kernel_rfl
theorem vc115(a:O)(l c:Nat)(base:Nat)(H:Heap)(K:KT):
 (fV TryzMutsJ Tryz.f172 base H [.v (S a l c)] [] K)=(
 Y Tryz.prog 42 [S a l c] H fun b d=>∃e g h,b=S e g h/\(X base H d->∃(i:LI)(j:LM),i [I Z 0] d/\∀(k:Int)(m:Heap),X base H m->i [I Z k] m->(k<(g:Int)->∃n o,e=some (D n o none)/\0<=k/\k<(g:Int)/\∃(p q:Int)(r s:Bool)(t:Int)(u:O)(v w:Nat),(C m n (o+N k*6)=some (I Z p)/\C m n (o+N k*6+1)=some (I Z q)/\C m n (o+N k*6+2)=some (B r)/\C m n (o+N k*6+3)=some (B s)/\C m n (o+N k*6+4)=some (I Z t)/\C m n (o+N k*6+5)=some (S u v w)/\True)/\∀x:Nat,Y Tryz.prog 163 [S u v w] m fun y z=>∃a1 b1 c1,y=S a1 b1 c1/\(X base m z->∃d1 e1,e=some (D d1 e1 none)/\0<=k/\k<(g:Int)/\∃f1:KB,z d1=some f1/\KB.free f1=true/\base<=d1/\e1+N k*6+4+1+1<=KB.size f1/\∀g1:Heap,Upd z d1 (e1+N k*6+4+1) f1 [S a1 b1 c1] g1->∀h1:Int,h1=W Z (k+1)->i [I Z h1] g1/\j [I Z h1]<j [I Z k]))/\(¬k<(g:Int)->K (S e g h) [] m))):=by kernel_rfl
theorem vc45(a a':O)(l c l' c':Nat)(ag tr id:Int)(rp gd:Bool)(base:Nat)(H:Heap)(K:KT):
 (fV TryzMutsJ Tryz.f245 base H [.v (S a l c),.v (A #[I Z ag,I Z tr,B rp,B gd,I Z id,S a' l' c'])] [] K)=(
 (fun w1:LV=>∀(b d:Nat)(e:Heap),X base H e->H d=none->e d=some (boxKB 74 w1)->∃(g:LI)(h:LM),g [S none 0 0,I Z 0,I Z 0] e/\∀(i:O)(j k:Nat)(m n:Int)(o:Heap),X base H o->g [S i j k,I Z m,I Z n] o->(n<2->0<=n/\n<2/\∃p q r,List.get?Internal [S a l c,S (some (D d 0 none)) 1 1] (N n*1)=some (S p q r)/\Y Tryz.prog 102 [S p q r] o fun s t=>∃u,s=I Z u/\(X base o t->(¬u=0->K (T #[S none 0 0,I Z u]) [] t)/\(¬¬u=0->∀v:Int,v=W Z (n+1)->[w1]=[w1]/\g [S i j k,I Z m,I Z v] t/\h [S i j k,I Z m,I Z v]<h [S i j k,I Z m,I Z n])))/\(¬n<2->Y Tryz.prog 172 [S a l c] o fun p q=>∃r s t,p=S r s t/\(X base o q->((s:Int)<40->∀(u:Nat)(v:Heap),X base q v->q u=none->v u=some (boxKB 74 w1)->Y Tryz.prog 172 [S (some (D u 0 none)) 1 1] v fun w x=>∃y z a1,w=S y z a1/\(X base v x->∃b1 c1:List Value,Row base x 74 6 r s t b1/\List.length c1=z*6/\allOne c1=true/\(z=0∨∃d1 e1,y=some (D d1 e1 none)/\cellsAt x d1 e1 0 c1)/\(s+z)*56<=140737488355328/\s+z<=9223372036854775807/\∀(d1:O)(e1:Nat)(f1:Heap),Grew base x f1 r t d1 e1 (s+z)->Row base f1 74 6 d1 (s+z) e1 (b1++c1)->K (T #[S d1 (s+z) e1,I Z 0]) [] f1))/\(¬(s:Int)<40->K (T #[S r s t,I Z 0]) [] q)))) [I Z ag,I Z tr,B rp,B gd,I Z id,S a' l' c']):=by kernel_rfl
theorem vc48(a:O)(l c:Nat)(k:Int)(tw:Bool)(base:Nat)(H:Heap)(K:KT):
 (fV TryzMutsJ Tryz.f175 base H [.v (S a l c),.v (I Z k),.v (B tw)] [] K)=(
 ∀b:Nat,(fun w1:LB=>Y Tryz.prog 102 [S a l c] H fun d e=>∃g,d=I Z g/\(X base H e->(¬g=0->K (T #[S none 0 0,A #[I Z 0,I Z 0,B false,B false,I Z 0,S none 0 0],I Z g]) [] e)/\(¬¬g=0->∃h:Prop,((k<0->w1=w1/\SubH e e/\h)/\(¬k<0->w1=w1/\SubH e e/\(h↔(l:Int)<=k)))/\(h->K (T #[S none 0 0,A #[I Z 0,I Z 0,B false,B false,I Z 0,S none 0 0],I Z 5]) [] e)/\(¬h->Y Tryz.prog 172 [S a l c] e fun i j=>∃m n o,i=S m n o/\(X base e j->∀p:Int,p=W Z (k+1)->0<=k/\k<=p/\p<=(o:Int)/\∀q:O,(k<(o:Int)->q=Option.map (fun r=>Addr.add r (N k*6)) m)->Y Tryz.prog 172 [S q (N p-N k) (o-N k)] j fun r s=>∃t u v,r=S t u v/\(X base j s->∃w x,t=some (D w x none)/\Int.ofNat 0<=0/\0<(u:Int)/\∃(y z:Int)(a1 b1:Bool)(c1:Int)(d1:O)(e1 f1:Nat),(C s w (x+0*6)=some (I Z y)/\C s w (x+0*6+1)=some (I Z z)/\C s w (x+0*6+2)=some (B a1)/\C s w (x+0*6+3)=some (B b1)/\C s w (x+0*6+4)=some (I Z c1)/\C s w (x+0*6+5)=some (S d1 e1 f1)/\True)/\∀g1:Nat,(tw=false->∀h1:Int,h1=W Z (k+1)->∃(i1:List Value)(j1 k1:Nat),k=(j1:Int)/\h1=(k1:Int)/\j1<=k1/\k1<=n/\n<=1000000/\Row base s 74 6 m n o i1/\allOne i1=true/\∀l1:Heap,Grew base s l1 m o m o (j1+(n-k1))->Row base l1 74 6 m (j1+(n-k1)) o (List.take (j1*6) i1++List.drop (k1*6) i1)->K (T #[S m (j1+(n-k1)) o,A #[I Z y,I Z z,B a1,B b1,I Z c1,S d1 e1 f1],I Z 0]) [] l1)/\(¬tw=false->K (T #[S m n o,A #[I Z y,I Z z,B a1,B b1,I Z c1,S d1 e1 f1],I Z 0]) [] s))))))) [J b false 74 [I Z 0,I Z 0,B false,B false,I Z 0,S none 0 0]]):=by kernel_rfl
theorem vc116(base:Nat)(H:Heap)(K:KT):
 (fV TryzMutsJ Tryz.f72 base H [] [] K)=(
 ∀(a b:Nat)(c:Heap),X base H c->H b=none->c b=some (boxKB 91 [I Z 1,I Z 2,I Z 2,I Z 1])->K (A #[I Z 2,S (some (D b 0 none)) 2 2]) [] c):=by kernel_rfl
open Go Go.Proofs
theorem vc158(s:ByteArray)(c:Int)(base:Nat)(H:Heap)(K:KT):
 (fV TryzMutsJ Tryz.f266 base H [.v (.string s),.v (.int .u8 c)] [] K)=(
 ∃a,ExtRuns Tryz.prog H 286 [Str s,I IntKind.u8 c] (I Z a)/\K (I Z a) [] H):=by kernel_rfl
theorem vc157(s:ByteArray)(c:UInt8)(base:Nat)(H:Heap)(K:KT):
 (fV TryzMutsJ Tryz.f247 base H [.v (.string s),.v (.string ⟨#[c]⟩)] [] K)=(
 ∃a:Prop,(((↑(ByteArray.size (ByteArray.mk #[c])):Int)=0->SubH H H/\a)/\(¬(↑(ByteArray.size (ByteArray.mk #[c])):Int)=0->∃b,RunsTo Tryz.prog (binRun BinOp.eql 9 (Operand.tmp 20) (Operand.tmp 21) (Str (ByteArray.mk #[c])) (Str s)) (B b)/\SubH H H/\(a↔b=true)))/\(a->K (I Z 0) [] H)/\(¬a->((↑(ByteArray.size (ByteArray.mk #[c])):Int)=1->∃b:Int,RunsTo Tryz.prog (Instr.index 9 (Str (ByteArray.mk #[c])) (I Z 0)) (I IntKind.u8 b)/\Y Tryz.prog 266 [Str s,I IntKind.u8 b] H fun d e=>∃g,d=I Z g/\(X base H e->K (I Z g) [] e))/\(¬(↑(ByteArray.size (ByteArray.mk #[c])):Int)=1->((↑(ByteArray.size s):Int)<=(↑(ByteArray.size (ByteArray.mk #[c])):Int)->K (I Z (-1)) [] H)/\(¬(↑(ByteArray.size s):Int)<=(↑(ByteArray.size (ByteArray.mk #[c])):Int)->∃b:Prop,(∃d,C H 0 0=some (I Z d)/\((↑(ByteArray.size (ByteArray.mk #[c])):Int)<=d->SubH H H/\(b↔(↑(ByteArray.size s):Int)<=64))/\(¬(↑(ByteArray.size (ByteArray.mk #[c])):Int)<=d->SubH H H/\¬b))/\(b->∃d,ExtRuns Tryz.prog H 267 [Str s,Str (ByteArray.mk #[c])] (I Z d)/\K (I Z d) [] H)/\(¬b->∃d:Int,RunsTo Tryz.prog (Instr.index 9 (Str (ByteArray.mk #[c])) (I Z 0)) (I IntKind.u8 d)/\∃e:Int,RunsTo Tryz.prog (Instr.index 9 (Str (ByteArray.mk #[c])) (I Z 1)) (I IntKind.u8 e)/\∀g:Int,g=W Z ((↑(ByteArray.size s):Int)-(↑(ByteArray.size (ByteArray.mk #[c])):Int))->∀h:Int,h=W Z (g+1)->∃(i:LI)(j:LM),i [I Z 0,I Z 0,I Z 0] H/\∀(k l m:Int)(n:Heap),X base H n->i [I Z k,I Z l,I Z m] n->(l<h->∃o:Int,RunsTo Tryz.prog (Instr.index 9 (Str s) (I Z l)) (I IntKind.u8 o)/\(¬o=d->∀p:Int,p=W Z (l+1)->0<=p/\p<=h/\h<=(↑(ByteArray.size s):Int)/\Y Tryz.prog 266 [Str (ByteArray.extract s (N p) (N h)),I IntKind.u8 d] n fun q r=>∃t,q=I Z t/\(X base n r->(t<0->K (I Z (-1)) [] r)/\(¬t<0->∀u:Int,u=W Z (t+1)->∀v:Int,v=W Z (l+u)->∃w:Prop,(∀x:Int,x=W Z (v+1)->∃y:Int,RunsTo Tryz.prog (Instr.index 9 (Str s) (I Z x)) (I IntKind.u8 y)/\(y=e->∀z:Int,z=W Z (v+(↑(ByteArray.size (ByteArray.mk #[c])):Int))->0<=v/\v<=z/\z<=(↑(ByteArray.size
 s):Int)/\∃a1,RunsTo Tryz.prog (binRun BinOp.eql 9 (Operand.tmp 90) (Operand.tmp 91) (Str (ByteArray.extract s (N v) (N z))) (Str (ByteArray.mk #[c]))) (B a1)/\SubH r r/\(w↔a1=true))/\(¬y=e->SubH r r/\¬w))/\(w->K (I Z v) [] r)/\(¬w->∀x:Int,(fun w1:LV=>x=W Z (v+1)->∀y:Int,y=W Z (m+1)->∃z:Prop,(∃a1,C r 0 0=some (I Z a1)/\((↑(ByteArray.size (ByteArray.mk #[c])):Int)<=a1->Y Tryz.prog 268 [I Z x] r fun b1 c1=>∃d1,b1=I Z d1/\(X base r c1->SubH r c1/\(z↔d1<y)))/\(¬(↑(ByteArray.size (ByteArray.mk #[c])):Int)<=a1->SubH r r/\¬z))/\(z->0<=x/\x<=(↑(ByteArray.size s):Int)/\∃a1,ExtRuns Tryz.prog r 267 w1 (I Z a1)/\(0<=a1->∀b1:Int,b1=W Z (a1+x)->K (I Z b1) [] r)/\(¬0<=a1->K (I Z (-1)) [] r))/\(¬z->∃a1:Prop,(∃b1,C r 0 0=some (I Z b1)/\(b1<(↑(ByteArray.size (ByteArray.mk #[c])):Int)->False)/\(¬b1<(↑(ByteArray.size (ByteArray.mk #[c])):Int)->SubH r r/\¬a1))/\(a1->0<=x/\x<=(↑(ByteArray.size s):Int)/\Y Tryz.prog 269 w1 r fun b1 c1=>∃d1,b1=I Z d1/\(X base r c1->(d1<0->K (I Z (-1)) [] c1)/\(¬d1<0->∀e1:Int,e1=W Z (x+d1)->K (I Z e1) [] c1)))/\(¬a1->i [I Z k,I Z x,I Z y] r/\j [I Z k,I Z x,I Z y]<j [I Z k,I Z l,I Z m]))) [Str (ByteArray.extract s (N x) (ByteArray.size s)),Str (ByteArray.mk #[c])]))))/\(¬¬o=d->∃p:Prop,(∀q:Int,q=W Z (l+1)->∃r:Int,RunsTo Tryz.prog (Instr.index 9 (Str s) (I Z q)) (I IntKind.u8 r)/\(r=e->∀t:Int,t=W Z (l+(↑(ByteArray.size (ByteArray.mk #[c])):Int))->0<=l/\l<=t/\t<=(↑(ByteArray.size s):Int)/\∃u,RunsTo Tryz.prog (binRun BinOp.eql 9 (Operand.tmp 90) (Operand.tmp 91) (Str (ByteArray.extract s (N l) (N t))) (Str (ByteArray.mk #[c]))) (B u)/\SubH n n/\(p↔u=true))/\(¬r=e->SubH n n/\¬p))/\(p->K (I Z l) [] n)/\(¬p->∀q:Int,(fun w2:LV=>q=W Z (l+1)->∀r:Int,r=W Z (m+1)->∃t:Prop,(∃u,C n 0 0=some (I Z u)/\((↑(ByteArray.size (ByteArray.mk #[c])):Int)<=u->Y Tryz.prog 268 [I Z q] n fun v w=>∃x,v=I Z x/\(X base n w->SubH n w/\(t↔x<r)))/\(¬(↑(ByteArray.size (ByteArray.mk #[c])):Int)<=u->SubH n n/\¬t))/\(t->0<=q/\q<=(↑(ByteArray.size s):
 Int)/\∃u,ExtRuns Tryz.prog n 267 w2 (I Z u)/\(0<=u->∀v:Int,v=W Z (u+q)->K (I Z v) [] n)/\(¬0<=u->K (I Z (-1)) [] n))/\(¬t->∃u:Prop,(∃v,C n 0 0=some (I Z v)/\(v<(↑(ByteArray.size (ByteArray.mk #[c])):Int)->False)/\(¬v<(↑(ByteArray.size (ByteArray.mk #[c])):Int)->SubH n n/\¬u))/\(u->0<=q/\q<=(↑(ByteArray.size s):Int)/\Y Tryz.prog 269 w2 n fun v w=>∃x,v=I Z x/\(X base n w->(x<0->K (I Z (-1)) [] w)/\(¬x<0->∀y:Int,y=W Z (q+x)->K (I Z y) [] w)))/\(¬u->i [I Z k,I Z q,I Z r] n/\j [I Z k,I Z q,I Z r]<j [I Z k,I Z l,I Z m]))) [Str (ByteArray.extract s (N q) (ByteArray.size s)),Str (ByteArray.mk #[c])])))/\(¬l<h->K (I Z (-1)) [] n)))))):=by kernel_rfl
theorem vc154(s t:ByteArray)(base:Nat)(H:Heap)(K:KT):
 (fV TryzMutsJ Tryz.f239 base H [.v (.string s),.v (.string t)] [] K)=(
 Y Tryz.prog 247 [Str s,Str t] H fun a b=>∃c,a=I Z c/\(X base H b->K (I Z c) [] b)):=by kernel_rfl
theorem vc144(s t:ByteArray)(base:Nat)(H:Heap)(K:KT):
 (fV TryzMutsJ Tryz.f213 base H [.v (.string s),.v (.string t)] [] K)=(
 Y Tryz.prog 239 [Str s,Str t] H fun a b=>∃c,a=I Z c/\(X base H b->K (B (decide (0<=c))) [] b)):=by kernel_rfl
theorem vc145(k:Int)(base:Nat)(H:Heap)(K:KT):
 (fV TryzMutsJ Tryz.f230 base H [.v (I Z k)] [] K)=(
 0<=k/\k<10/\∃a,List.get?Internal [Str (ByteArray.mk #[]),Str (ByteArray.mk #[116,114]),Str (ByteArray.mk #[116]),Str (ByteArray.mk #[116,103]),Str (ByteArray.mk #[114]),Str (ByteArray.mk #[110]),Str (ByteArray.mk #[97,116]),Str (ByteArray.mk #[97,116,103]),Str (ByteArray.mk #[]),Str (ByteArray.mk #[])] (N k*1)=some (Str a)/\K (Str a) [] H):=by kernel_rfl
theorem vc143(t:ByteArray)(p:Nat)(base:Nat)(H:Heap)(K:KT):
 (fV TryzMutsJ Tryz.f229 base H [.v (.string t),.v (.pointer (some ⟨p,0,none⟩))] [] K)=(
 ∃a,C H p 0=some (I Z a)/\Y Tryz.prog 230 [I Z a] H fun b c=>∃d,b=Str d/\(X base H c->Y Tryz.prog 213 [Str d,Str t] c fun e g=>∃h,e=B h/\(X base c g->K (B h) [] g))):=by kernel_rfl
abbrev vt124_3(kd ag tr n id:Int)(gd:Bool)(a:O)(l c:Nat)(base:Nat)(H:Heap)(K:KT)(b_4:Bool)(b:Nat)(H'_2:Heap)(φ:Prop):Prop:=
 (fun w1:LB=>b_4=false->(gd=true->w1=w1/\SubH H H'_2/\φ)/\(gd=false->true=true/\∀d:Heap,X 0 H'_2 d->d b=some (boxKB 126 [I Z kd,I Z ag,I Z tr,I Z n,B gd,I Z id,S a l c])/\True->Y Tryz.prog 229 [Str (ByteArray.mk #[114]),P (some (D b 0 none))] d fun e g=>∃h,e=B h/\∀i,X base H'_2 i->(∀(j:Nat)(k:KB),g j=some k->(∀m:Bx,m∈w1->j≠Bx.b m)->i j=some k)->(h=false->(¬id=0->w1=w1/\SubH H i/\φ)/\(¬¬id=0->w1=w1/\SubH H i/\(φ↔0<(l:Int))))/\(¬h=false->w1=w1/\SubH H i/\¬φ))) [J b false 126 [I Z kd,I Z ag,I Z tr,I Z n,B gd,I Z id,S a l c]]
abbrev vt124_4(kd ag tr n id:Int)(gd:Bool)(a:O)(l c:Nat)(base:Nat)(H:Heap)(K:KT)(b_4:Bool)(H'_2:Heap)(b:Nat)(φ:Prop):Prop:=
 (fun w1:LB=>¬b_4=false->true=true/\∀d:Heap,X 0 H'_2 d->d b=some (boxKB 126 [I Z kd,I Z ag,I Z tr,I Z n,B gd,I Z id,S a l c])/\True->Y Tryz.prog 229 [Str (ByteArray.mk #[114]),P (some (D b 0 none))] d fun e g=>∃h,e=B h/\∀i,X base H'_2 i->(∀(j:Nat)(k:KB),g j=some k->(∀m:Bx,m∈w1->j≠Bx.b m)->i j=some k)->(h=false->(¬id=0->w1=w1/\SubH H i/\φ)/\(¬¬id=0->w1=w1/\SubH H i/\(φ↔0<(l:Int))))/\(¬h=false->w1=w1/\SubH H i/\¬φ)) [J b false 126 [I Z kd,I Z ag,I Z tr,I Z n,B gd,I Z id,S a l c]]
abbrev vt124_1(kd ag tr n id:Int)(gd:Bool)(a:O)(l c:Nat)(base:Nat)(H:Heap)(K:KT)(b_3:Bool)(b:Nat)(H':Heap)(φ:Prop):Prop:=
 (fun w1:LV=>b_3=false->(¬n=0->[J b false 126 w1]=[J b false 126 w1]/\SubH H H'/\φ)/\(¬¬n=0->true=true/\∀d:Heap,X 0 H' d->d b=some (boxKB 126 w1)/\True->Y Tryz.prog 229 [Str (ByteArray.mk #[103]),P (some (D b 0 none))] d fun e g=>∃h,e=B h/\∀i,X base H' i->(∀(j:Nat)(k:KB),g j=some k->(∀m:Bx,m∈ [J b false 126 w1]->j≠Bx.b m)->i j=some k)->(vt124_3 kd ag tr n id gd a l c base H K h b i φ)/\(vt124_4 kd ag tr n id gd a l c base H K h i b φ))) [I Z kd,I Z ag,I Z tr,I Z n,B gd,I Z id,S a l c]
abbrev vt124_2(kd ag tr n id:Int)(gd:Bool)(a:O)(l c:Nat)(base:Nat)(H:Heap)(K:KT)(b_3:Bool)(H':Heap)(b:Nat)(φ:Prop):Prop:=
 ¬b_3=false->true=true/\∀d:Heap,X 0 H' d->d b=some (boxKB 126 [I Z kd,I Z ag,I Z tr,I Z n,B gd,I Z id,S a l c])/\True->Y Tryz.prog 229 [Str (ByteArray.mk #[103]),P (some (D b 0 none))] d fun e g=>∃h,e=B h/\∀i,X base H' i->(∀(j:Nat)(k:KB),g j=some k->(∀m:Bx,m∈ [J b false 126 [I Z kd,I Z ag,I Z tr,I Z n,B gd,I Z id,S a l c]]->j≠Bx.b m)->i j=some k)->(vt124_3 kd ag tr n id gd a l c base H K h b i φ)/\(vt124_4 kd ag tr n id gd a l c base H K h i b φ)
theorem vc124(kd ag tr n id:Int)(gd:Bool)(a:O)(l c:Nat)(base:Nat)(H:Heap)(K:KT):
 (fV TryzMutsJ Tryz.f198 base H [.v (A #[I Z kd,I Z ag,I Z tr,I Z n,B gd,I Z id,S a l c])] [] K)=(
 (fun w4:LV=>∀b:Nat,(fun w3:LV=>(fun w2:LV=>(fun w1:LB=>∃d:Prop,((kd<1->w1=w1/\SubH H H/\d)/\(¬kd<1->w1=w1/\SubH H H/\(d↔9<kd)))/\(d->K (I Z 4) [] H)/\(¬d->∃e:Prop,(true=true/\∀g:Heap,X 0 H g->g b=some (boxKB 126 w4)/\True->Y Tryz.prog 229 [Str (ByteArray.mk #[97]),P (some (D b 0 none))] g fun h i=>∃j,h=B j/\∀k,X base H k->(∀(m:Nat)(o:KB),i m=some o->(∀p:Bx,p∈w1->m≠Bx.b p)->k m=some o)->(j=false->(¬ag=0->w1=w1/\SubH H k/\e)/\(¬¬ag=0->true=true/\∀m:Heap,X 0 k m->m b=some (boxKB 126 w4)/\True->Y Tryz.prog 229 w3 m fun o p=>∃q,o=B q/\∀r,X base k r->(∀(s:Nat)(t:KB),p s=some t->(∀u:Bx,u∈w1->s≠Bx.b u)->r s=some t)->(q=false->(¬tr=0->w1=w1/\SubH H r/\e)/\(¬¬tr=0->true=true/\∀s:Heap,X 0 r s->s b=some (boxKB 126 w4)/\True->Y Tryz.prog 229 w2 s fun t u=>∃v,t=B v/\∀w,X base r w->(∀(x:Nat)(y:KB),u x=some y->(∀z:Bx,z∈w1->x≠Bx.b z)->w x=some y)->(vt124_1 kd ag tr n id gd a l c base H K v b w e)/\(vt124_2 kd ag tr n id gd a l c base H K v w b e)))/\(¬q=false->true=true/\∀s:Heap,X 0 r s->s b=some (boxKB 126 w4)/\True->Y Tryz.prog 229 w2 s fun t u=>∃v,t=B v/\∀w,X base r w->(∀(x:Nat)(y:KB),u x=some y->(∀z:Bx,z∈w1->x≠Bx.b z)->w x=some y)->(vt124_1 kd ag tr n id gd a l c base H K v b w e)/\(vt124_2 kd ag tr n id gd a l c base H K v w b e))))/\(¬j=false->true=true/\∀m:Heap,X 0 k m->m b=some (boxKB 126 w4)/\True->Y Tryz.prog 229 w3 m fun o p=>∃q,o=B q/\∀r,X base k r->(∀(s:Nat)(t:KB),p s=some t->(∀u:Bx,u∈w1->s≠Bx.b u)->r s=some t)->(q=false->(¬tr=0->w1=w1/\SubH H r/\e)/\(¬¬tr=0->true=true/\∀s:Heap,X 0 r s->s b=some (boxKB 126 w4)/\True->Y Tryz.prog 229 w2 s fun t u=>∃v,t=B v/\∀w,X base r w->(∀(x:Nat)(y:KB),u x=some y->(∀z:Bx,z∈w1->x≠Bx.b z)->w x=some y)->(vt124_1 kd ag tr n id gd a l c base H K v b w e)/\(vt124_2 kd ag tr n id gd a l c base H K v w b e)))/\(¬q=false->true=true/\∀s:Heap,X 0 r s->s b=some (boxKB 126 w4)/\True->Y Tryz.prog 229 w2 s fun t u=>∃v,t=B v/\∀w,X base r w->(∀(x:Nat)(y:KB),u x=some y->(∀z:Bx,z∈
 w1->x≠Bx.b z)->w x=some y)->(vt124_1 kd ag tr n id gd a l c base H K v b w e)/\(vt124_2 kd ag tr n id gd a l c base H K v w b e))))/\(e->K (I Z 4) [] H)/\(¬e->∃g:Prop,((ag<0->w1=w1/\SubH H H/\g)/\(¬ag<0->(6<=ag->w1=w1/\SubH H H/\g)/\(¬6<=ag->true=true/\∀h:Heap,X 0 H h->h b=some (boxKB 126 w4)/\True->Y Tryz.prog 229 w3 h fun i j=>∃k,i=B k/\∀m,X base H m->(∀(o:Nat)(p:KB),j o=some p->(∀q:Bx,q∈w1->o≠Bx.b q)->m o=some p)->(k=true->(tr<1->w1=w1/\SubH H m/\g)/\(¬tr<1->(200<tr->w1=w1/\SubH H m/\g)/\(¬200<tr->true=true/\∀o:Heap,X 0 m o->o b=some (boxKB 126 w4)/\True->Y Tryz.prog 229 w2 o fun p q=>∃r,p=B r/\∀s,X base m s->(∀(t:Nat)(u:KB),q t=some u->(∀v:Bx,v∈w1->t≠Bx.b v)->s t=some u)->(r=true->(n<1->w1=w1/\SubH H s/\g)/\(¬n<1->w1=w1/\SubH H s/\(g↔6<n)))/\(r=false->w1=w1/\SubH H s/\¬g))))/\(k=false->true=true/\∀o:Heap,X 0 m o->o b=some (boxKB 126 w4)/\True->Y Tryz.prog 229 w2 o fun p q=>∃r,p=B r/\∀s,X base m s->(∀(t:Nat)(u:KB),q t=some u->(∀v:Bx,v∈w1->t≠Bx.b v)->s t=some u)->(r=true->(n<1->w1=w1/\SubH H s/\g)/\(¬n<1->w1=w1/\SubH H s/\(g↔6<n)))/\(r=false->w1=w1/\SubH H s/\¬g)))))/\(g->K (I Z 3) [] H)/\(¬g->true=true/\∀h:Heap,X 0 H h->h b=some (boxKB 126 w4)/\True->Y Tryz.prog 229 [Str (ByteArray.mk #[114]),P (some (D b 0 none))] h fun i j=>∃k,i=B k/\∀m,X base H m->(∀(o:Nat)(p:KB),j o=some p->(∀q:Bx,q∈w1->o≠Bx.b q)->m o=some p)->(k=true->Y Tryz.prog 167 [A #[I Z id,S a l c]] m fun o p=>∃q,o=I Z q/\(X base m p->K (I Z q) [] p))/\(k=false->K (I Z 0) [] m))))) [J b false 126 w4]) [Str (ByteArray.mk #[110]),P (some (D b 0 none))]) [Str (ByteArray.mk #[116]),P (some (D b 0 none))]) [I Z kd,I Z ag,I Z tr,I Z n,B gd,I Z id,S a l c]):=by kernel_rfl
open Go Go.Proofs
def stepCells(o:Step):List Value:=[i64 o.kind,i64 o.name,i64 o.ver]
theorem stepCells_len(o:Step):(stepCells o).length=3:=rfl
abbrev Steps(H:Heap)(a:O)(n:Nat)(l:List Step):Prop:=Sl (REnc stepCells) 3 H a n l
theorem Sl.step{H H':Heap}{a:O}{n:Nat}{xs:List Step}(h:Steps H a n xs)(e:Ext H H'){k:Int}(h0:0<=k)(h1:k<n){F:Int->Int->Int->Prop}(hF:∀p,xs[k.toNat]?=some p->F p.kind p.name p.ver):
  ∃(b o:Nat),a=some ⟨b,o,none⟩/\0<=k/\k<n/\∃(x y z:Int),(H'.cell b (o+k.toNat*3)=some (.int .i64 x)/\H'.cell b (o+k.toNat*3+1)=some (.int .i64 y)/\H'.cell b (o+k.toNat*3+2)=some (.int .i64 z)/\True)/\F x y z:=by
 obtain⟨b,o,r,x,ha,hx,hr,hc⟩:=h.get h0 h1
 obtain rfl:r=stepCells x:=hr
 exact⟨b,o,ha,h0,h1,_,_,_,⟨Heap.cell_next e (hc 0 _ rfl),Heap.cell_next e (hc 1 _ rfl),Heap.cell_next e (hc 2 _ rfl),trivial⟩,hF x hx⟩
theorem snoc_step{α:Type}(enc:α->List Value)(out:List α)(x:α):(out++[x]).flatMap enc=out.flatMap enc++enc x:=by simp
theorem steps_len{base:Nat}{H:Heap}{e:TypeId}{a:O}{n c:Nat}{xs:List Step}(h:Row base H e 3 a n c (xs.flatMap stepCells)):xs.length=n:=row_len stepCells_len (by omega) h
theorem cDiff{H:Heap}{a a':O}{l c l' c':Nat}{xs ys:List Pin}(hx:Pins H a l xs)(hy:Pins H a' l' ys):
  Spec Tryz.prog 57 [.slice a l c,.slice a' l' c'] H fun v H'=>∃a n c,v= .tuple #[.slice a n c,i64 (diffErr xs ys)]/\Steps H' a n (if diffErr xs ys=0 then diffs xs ys else []):=by
 refine TryzvcJ Tryz.func57 (by kernel_rfl) (by kernel_rfl) _ rfl (fun base K=>vc54 a a' l c l' c' base H K) fun base hb=> ?_
 have hxl:=hx.len
 have hyl:=hy.len
 refine⟨fun vs Hc=>∃(a1:O)(n1 c1:Nat)(d:Int)(k:Nat),vs=[.slice a1 n1 c1,i64 d,i64 k]/\k<=2/\(0<k->lockCheck xs=0)/\(1<k->lockCheck ys=0),upTo 2 2,⟨none,0,0,0,0,rfl,by omega,by omega,by omega⟩,fun a1 n1 c1 d n H' hN hI=> ?_⟩
 obtain⟨a1',n1',c1',d',k,hvs,hk,hk0,hk1⟩:=hI
 obtain⟨⟨rfl,rfl,rfl⟩,rfl,rfl⟩:(a1=a1'/\n1=n1'/\c1=c1')/\d=d'/\n=(k:Int):=by simpa using hvs
 refine⟨fun hlt=>⟨by omega,hlt,?_⟩,fun hge=> ?_⟩
 ·by_cases k0:k=0
  ·subst k0
   refine⟨a,l,c,rfl,(cLockCheck (hx.ext' hN.ext)).int1 fun H1 e1 hN1=>⟨fun h=> ?_,fun h=> ?_⟩⟩
   ·have e:diffErr xs ys=lockCheck xs:=by rw[diffErr,if_neg h]
    rw[e,if_neg h]
    exact⟨none,0,0,rfl,Sl.nil⟩
   ·rintro r rfl
    rw[wrap_small (by omega) (by omega)]
    exact⟨⟨_,_,_,_,1,rfl,by omega,fun _=>Decidable.not_not.1 h,by omega⟩,by simp[upTo]⟩
  ·obtain rfl:k=1:=by omega
   refine⟨a',l',c',rfl,(cLockCheck (hy.ext' hN.ext)).int1 fun H1 e1 hN1=>⟨fun h=> ?_,fun h=> ?_⟩⟩
   ·have e:diffErr xs ys=lockCheck ys:=by rw[diffErr,if_pos (hk0 (by omega))]
    rw[e,if_neg h]
    exact⟨none,0,0,rfl,Sl.nil⟩
   ·rintro r rfl
    rw[wrap_small (by omega) (by omega)]
    exact⟨⟨_,_,_,_,2,rfl,by omega,fun _=>hk0 (by omega),fun _=>Decidable.not_not.1 h⟩,by simp[upTo]⟩
 obtain rfl:k=2:=by omega
 have hz:diffErr xs ys=0:=by rw[diffErr,if_pos (hk0 (by omega))];exact hk1 (by omega)
 obtain⟨⟨hLx,hx12⟩,hLy,hy12⟩:=diffErr_zero.1 hz
 rw[hz,if_pos rfl]
 refine⟨fun vs Hc=>∃(out:List Step)(a1:O)(n1 c1:Nat)(k:Nat),vs=[.slice a1 n1 c1,i64 k]/\Row base Hc 182 3 a1 n1 c1 (out.flatMap stepCells)/\k<=l/\out.length<=k/\out++(xs.drop k).filterMap (dropOf ys)=drops xs ys,upTo l 1,
  ⟨[],none,0,0,0,rfl,Row.nil,by omega,by simp,rfl⟩,fun a3 n3 c3 n H3 hN3 hI=> ?_⟩
 obtain⟨out,a3',n3',c3',k,hvs,hR,hk,hol,hI⟩:=hI
 obtain⟨⟨rfl,rfl,rfl⟩,rfl⟩:(a3=a3'/\n3=n3'/\c3=c3')/\n=(k:Int):=by simpa using hvs
 have hon:=steps_len hR
 refine⟨fun hlt=>hx.pin hN3.ext (by omega) hlt fun p hp=> ?_,fun hge=> ?_⟩
 ·rw[Int.toNat_natCast] at hp
  rw[drop_at hp] at hI
  intro _
  refine(cFind (hy.ext' hN3.ext) p.name).int1 fun H4 e4 hN4=>⟨fun h=> ?_,fun h=> ?_⟩
  ·rw[List.filterMap_cons_some (b:=⟨2,p.name,0⟩) (by rw[dropOf,if_pos h])] at hI
   refine fun _=>⟨_,hR.ext e4,by omega,by omega,fun a5 c5 H5 hG hR5=> ?_⟩
   rintro r rfl
   rw[wrap_small (by omega) (by omega)]
   exact⟨⟨out++[⟨2,p.name,0⟩],a5,_,c5,k+1,rfl,by rw[snoc_step];exact hR5,by omega,by simp;omega,by simpa using hI⟩,by simp[upTo];omega⟩
  ·rw[List.filterMap_cons_none (by rw[dropOf,if_neg h])] at hI
   rintro r rfl
   rw[wrap_small (by omega) (by omega)]
   exact⟨⟨out,_,_,_,k+1,rfl,hR.ext e4,by omega,by omega,hI⟩,by simp[upTo];omega⟩
 rw[drop_all hxl (by omega),List.filterMap_nil,List.append_nil] at hI
 refine⟨fun vs Hc=>∃(out:List Step)(a1:O)(n1 c1:Nat)(k:Nat),vs=[.slice a1 n1 c1,i64 k]/\Row base Hc 182 3 a1 n1 c1 (out.flatMap stepCells)/\k<=l'/\out.length<=k+l/\out++(ys.drop k).filterMap (addOf xs)=diffs xs ys,upTo l' 1,
  ⟨out,_,_,_,0,rfl,hR,by omega,by omega,by rw[hI];rfl⟩,fun a3 n3 c3 n H3 hN3 hI=> ?_⟩
 obtain⟨out,a3',n3',c3',k,hvs,hR,hk,hol,hI⟩:=hI
 obtain⟨⟨rfl,rfl,rfl⟩,rfl⟩:(a3=a3'/\n3=n3'/\c3=c3')/\n=(k:Int):=by simpa using hvs
 have hon:=steps_len hR
 refine⟨fun hlt=>hy.pin hN3.ext (by omega) hlt fun p hp=> ?_,fun hge=> ?_⟩
 ·rw[Int.toNat_natCast] at hp
  rw[drop_at hp] at hI
  intro _
  refine(cFind (hx.ext' hN3.ext) p.name).int1 fun H4 e4 hN4=>⟨fun h=> ?_,fun h=>⟨fun h0=> ?_,fun h0=> ?_⟩⟩
  ·rw[List.filterMap_cons_none (by rw[addOf,if_pos h])] at hI
   rintro r rfl
   rw[wrap_small (by omega) (by omega)]
   exact⟨⟨out,_,_,_,k+1,rfl,hR.ext e4,by omega,by omega,hI⟩,by simp[upTo];omega⟩
  ·rw[List.filterMap_cons_some (b:=⟨1,p.name,p.ver⟩) (by rw[addOf,if_neg h,if_pos h0])] at hI
   refine fun _=>⟨_,hR.ext e4,by omega,by omega,fun a5 c5 H5 hG hR5=> ?_⟩
   rintro r rfl
   rw[wrap_small (by omega) (by omega)]
   exact⟨⟨out++[⟨1,p.name,p.ver⟩],a5,_,c5,k+1,rfl,by rw[snoc_step];exact hR5,by omega,by simp;omega,by simpa using hI⟩,by simp[upTo];omega⟩
  ·rw[List.filterMap_cons_some (b:=⟨3,p.name,p.ver⟩) (by rw[addOf,if_neg h,if_neg h0])] at hI
   refine fun _=>⟨_,hR.ext e4,by omega,by omega,fun a5 c5 H5 hG hR5=> ?_⟩
   rintro r rfl
   rw[wrap_small (by omega) (by omega)]
   exact⟨⟨out++[⟨3,p.name,p.ver⟩],a5,_,c5,k+1,rfl,by rw[snoc_step];exact hR5,by omega,by simp;omega,by simpa using hI⟩,by simp[upTo];omega⟩
 ·rw[drop_all hyl (by omega),List.filterMap_nil,List.append_nil] at hI
  refine⟨a3,n3,c3,rfl,?_⟩
  rw[←hI]
  exact sl_of_rowE stepCells_len (by omega) hR
theorem cCloneJ{H:Heap}{a:O}{l c:Nat}{xs:List Pin}(hx:Pins H a l xs)(hl:l<=100000):Spec Tryz.prog 163 [.slice a l c] H fun v H'=>∃a n c,v= .slice a n c/\Fresh H H' 91 2 a n c (xs.flatMap pinCells):=by
 refine TryzvcJ Tryz.func163 (by kernel_rfl) (by kernel_rfl) _ rfl (fun base K=>vc121 a l c base H K) fun base hb=>⟨_,eqNil Tryz.underlying22,fun h=> ?_,fun h=> ?_⟩
 ·obtain rfl:a=none:=by cases a<;>simp at h⊢
  obtain⟨_,rfl⟩:=hx.addr_nil
  exact⟨none,0,0,rfl,Fresh.zero⟩
 ·intro g H1 hN1 _ hg
  obtain⟨h1,h2,h3⟩:=hx.copied pinCells_len (fun _=>rfl) hN1.ext
  exact⟨[],_,Row.zero,h1,h2,h3,by omega,by omega,fun a3 c3 H3 hG hR=>⟨_,_,_,rfl,hR.fresh hb⟩⟩
theorem cApplyIdx{H:Heap}{a:O}{l c:Nat}{xs:List Pin}(hx:Pins H a l xs){k:Int}{p:Nat}(hp:H.cell p 1=some (i64 k)):
  Spec Tryz.prog 147 [.slice a l c,.func (.func 234) #[] #[.pointer (some ⟨p,0,none⟩)]] H fun v _=>v=i64 (pinIdx k 0 xs):=by
 have h120:∀ {H:Heap} {n v:Int},H.cell p 1=some (i64 k)->Spec Tryz.prog 234 [.agg #[.int .i64 n,.int .i64 v],.pointer (some ⟨p,0,none⟩)] H fun r _=>r= .bool (decide (n=k)):=by
  intro H n v hp
  refine TryzvcJ Tryz.func234 (by kernel_rfl) (by kernel_rfl) _ rfl (fun base K=>vc120 n v p base H K) fun base hb=> ?_
  intro _
  exact⟨k,hp,rfl⟩
 refine TryzvcJ Tryz.func147 (by kernel_rfl) (by kernel_rfl) _ rfl (fun base K=>vc113b a l c p base H K) fun base hb=> ?_
 have hle:=hx.le
 refine⟨fun vs _=>∃(d:Int)(i:Nat),vs=[i64 d,i64 i]/\i<=l/\pinIdx k i (xs.drop i)=pinIdx k 0 xs,upTo l 1,⟨0,0,rfl,by omega,rfl⟩,fun d n H' hN hI=> ?_⟩
 obtain⟨d',i,hvs,hi,hI⟩:=hI
 obtain⟨rfl,rfl⟩:d=d'/\n=(i:Int):=by simpa using hvs
 refine⟨fun hlt=>hx.pin hN.ext (by omega) hlt fun q hq=> ?_,fun hge=> ?_⟩
 ·rw[Int.toNat_natCast] at hq
  rw[drop_at hq,pinIdx] at hI
  refine(h120 (Heap.cell_next hN.ext hp)).bool1 fun H2 _ _=>⟨fun h=> ?_,fun h=> ?_⟩
  ·rw[if_pos (by simpa using h)] at hI;rw[←hI]
  ·rw[if_neg (by simpa using h)] at hI
   rintro r rfl
   rw[wrap_in (by omega) (by omega)]
   exact⟨⟨_,i+1,rfl,by omega,hI⟩,by simp[upTo];omega⟩
 ·rw[←hI,drop_all hx.len (by omega),pinIdx]
theorem up_at{n v:Int} :∀ {l:List Pin} {k:Nat},(∀p∈l.take k,p.name<n)->(∀p,l[k]?=some p->n<=p.name)->find l n=0->(∀p∈l,p.ver≠0)->k<=l.length->up n v l=l.take k++⟨n,v⟩::l.drop k
 | [],k,_,_,_,_,hk=>by simp at hk;subst hk;rfl
 |p::r,0,_,h2,hf,hv,_=>by
  have h:=h2 p rfl
  have hne:p.name≠n:=fun e=>by rw[find,if_pos e] at hf;exact hv p List.mem_cons_self hf
  unfold up
  rw[if_pos h,if_neg hne];rfl
 |p::r,k+1,h1,h2,hf,hv,hk=>by
  have h:=h1 p (by simp)
  have hne:p.name≠n:=by omega
  rw[find,if_neg hne] at hf
  unfold up
  rw[if_neg (by omega),up_at (k:=k) (fun q hq=>h1 q (by simp;exact .inr hq)) (fun q hq=>h2 q (by simpa using hq)) hf (fun q hq=>hv q (List.mem_cons_of_mem _ hq)) (by simpa using hk)]
  rfl
theorem del_at{n:Int} :∀ {l:List Pin} {k:Nat} {p:Pin},Lk l->l[k]?=some p->p.name=n->del n l=l.take k++l.drop (k+1)
 | [],k,p,_,h,_=>by simp at h
 |q::r,0,p,hl,h,hn=>by
  simp at h;subst h
  unfold del
  rw[List.filter_cons_of_neg (by simp[hn])]
  simp only[List.take_zero,List.nil_append,List.drop_one,List.tail_cons]
  refine List.filter_eq_self.2 fun x hx=> ?_
  have:=hl.head x hx
  simp;omega
 |q::r,k+1,p,hl,h,hn=>by
  have hm:p∈r:=List.mem_of_getElem? (by simpa using h)
  have:=hl.head p hm
  have ih:=del_at (n:=n) (k:=k) hl.tail (by simpa using h) hn
  unfold del at ih⊢
  rw[List.filter_cons_of_pos (by simp;omega),ih]
  rfl
theorem turn_at{n v:Int} :∀ {l:List Pin} {k:Nat} {p:Pin},Lk l->l[k]?=some p->p.name=n->up n v l=l.set k ⟨n,v⟩
 | [],k,p,_,h,_=>by simp at h
 |q::r,0,p,hl,h,hn=>by
  simp at h;subst h
  unfold up
  rw[if_pos (by omega),if_pos hn];rfl
 |q::r,k+1,p,hl,h,hn=>by
  have hm:p∈r:=List.mem_of_getElem? (by simpa using h)
  have:=hl.head p hm
  unfold up
  rw[if_neg (by omega),turn_at hl.tail (by simpa using h) hn];rfl
theorem flat_take{α:Type}{enc:α->List Value}{sz:Nat}(hs:∀x,(enc x).length=sz):∀(xs:List α)(k:Nat),(xs.flatMap enc).take (k*sz)=(xs.take k).flatMap enc
 | [],k=>by simp
 |x::r,0=>by simp
 |x::r,k+1=>by
  rw[List.flatMap_cons,Nat.succ_mul,List.take_succ_cons,List.flatMap_cons,←flat_take hs r k,←hs x,Nat.add_comm,List.take_length_add_append]
theorem flat_drop{α:Type}{enc:α->List Value}{sz:Nat}(hs:∀x,(enc x).length=sz):∀(xs:List α)(k:Nat),(xs.flatMap enc).drop (k*sz)=(xs.drop k).flatMap enc
 | [],k=>by simp
 |x::r,0=>by simp
 |x::r,k+1=>by
  rw[List.flatMap_cons,Nat.succ_mul,List.drop_succ_cons,←flat_drop hs r k,←hs x,Nat.add_comm,List.drop_length_add_append]
theorem flat_field{α:Type}{enc:α->List Value}{sz:Nat}(hs:∀x,(enc x).length=sz){p q:α}{k:Nat}{vs:List Value}(hk:k+vs.length<=sz)(hq:setRange (enc p) k vs=enc q):∀ {xs:List α} {j:Nat},xs[j]?=some p->setRange (xs.flatMap enc) (j*sz+k) vs=(xs.set j q).flatMap enc
 | [],j,h=>by simp at h
 |y::r,0,h=>by
  simp at h;subst h
  rw[List.flatMap_cons,Nat.zero_mul,Nat.zero_add,setRange_left (by rw[hs];exact hk),hq];rfl
 |y::r,j+1,h=>by
  have h':r[j]?=some p:=by simpa using h
  have hj:=(List.getElem?_eq_some_iff.1 h').1
  have hle:(j+1)*sz<=r.length*sz:=Nat.mul_le_mul_right _ hj
  rw[Nat.succ_mul] at hle
  have:=setRange_app (xs:=enc y) (vs:=vs) (ys:=r.flatMap enc) (o:=j*sz+k) (by rw[flat_len hs];omega)
  rw[hs] at this
  rw[List.flatMap_cons,Nat.succ_mul,show j*sz+sz+k=sz+(j*sz+k) from by omega,this,flat_field hs hk hq h'];rfl
theorem Row.apart{base:Nat}{H:Heap}{e:TypeId}{sz:Nat}{a:O}{n c g:Nat}{xs:List Value}(h:Row base H e sz a n c xs)(hg:H g=none):c≠0->a≠some ⟨g,0,none⟩:=fun hc ha=>by
 rcases h.2.2.2 with⟨_,h0⟩|⟨b,k,hb,_,hH,_⟩
 ·exact hc h0
 ·rw[ha] at hb
  obtain rfl:g=b:=by simpa using hb
  rw[hg] at hH;cases hH
theorem cApply{H:Heap}{a:O}{l c:Nat}{xs:List Pin}(hx:Pins H a l xs)(kd n v:Int):
  Spec Tryz.prog 204 [.slice a l c,.agg #[.int .i64 kd,.int .i64 n,.int .i64 v]] H fun r H'=>∃a' n' c',r= .tuple #[.slice a' n' c',i64 (applyErr xs ⟨kd,n,v⟩)]/\Pins H' a' n' (if applyErr xs ⟨kd,n,v⟩=0 then applied xs ⟨kd,n,v⟩ else []):=by
 refine TryzvcJ Tryz.func204 (by kernel_rfl) (by kernel_rfl) _ rfl (fun base K=>vc55 a l c kd n v base H K) fun base hb=> ?_
 have hxl:=hx.len
 have bad:∀ {e:Int} {H':Heap},applyErr xs ⟨kd,n,v⟩=e->e≠0->∃a' n' c',Value.tuple #[.slice none 0 0,.int .i64 e]= .tuple #[.slice a' n' c',i64 (applyErr xs ⟨kd,n,v⟩)]/\Pins H' a' n' (if applyErr xs ⟨kd,n,v⟩=0 then applied xs ⟨kd,n,v⟩ else []):=fun he h0=>by
  rw[he,if_neg h0];exact⟨none,0,0,rfl,Sl.nil⟩
 intro b
 refine(cLockCheck hx).int1 fun H1 e1 hN1=>⟨fun h=>bad (by rw[applyErr,if_pos h]) h,fun h=> ?_⟩
 have h:=Decidable.not_not.1 h
 obtain⟨hL,hl12⟩:=lockCheck_zero.1 h
 refine⟨kd<1∨3<kd,⟨fun _=>⟨rfl,fun _ _ h=>h,by omega⟩,fun _=>⟨rfl,fun _ _ h=>h,by omega⟩⟩,fun h2=>bad (by rw[applyErr,if_neg (by omega),if_pos h2]) (by omega),fun h2=> ?_⟩
 refine⟨n<1∨20<n∨(kd≠2/\(v<1∨99<v))∨(kd=2/\v≠0),?_,fun h3=>bad (by rw[applyErr,if_neg (by omega),if_neg h2,if_pos (show badStep ⟨kd,n,v⟩ from h3)]) (by omega),fun h3=>⟨rfl,fun Hl hNl hbx=> ?_⟩⟩
 ·repeat' (first|exact⟨rfl,fun _ _ h=>h,by omega⟩|intro _|refine⟨?_,?_⟩)
 have h3':=h3
 have h3:¬badStep ⟨kd,n,v⟩:=h3
 have hx1:=hx.ext' e1
 refine(cApplyIdx (hx1.ext' hNl.ext) (k:=n) (p:=b) (by unfold Heap.cell;rw[hbx.1];rfl)).mono fun r H2 e2 hv=>⟨_,hv,fun H3 hN3 _=> ?_⟩
 have hf:=pinIdx_spec n xs 0 (by omega)
 have hidx:(0<=pinIdx n 0 xs↔find xs n≠0):=by
  rcases hf with⟨g1,g2,_⟩|⟨j,p,g1,g2,g3,g4⟩
  ·rw[g1,g2];omega
  ·have:=hL.name (List.mem_of_getElem? g2)
   rw[g1,g3];omega
 refine⟨kd=1/\find xs n≠0,⟨fun _=>⟨rfl,fun _ _ h=>h,by omega⟩,fun _=>⟨rfl,fun _ _ h=>h,by omega⟩⟩,fun h4=>bad (by rw[applyErr,if_neg (by omega),if_neg h2,if_neg h3,if_pos h4]) (by omega),fun h4=> ?_⟩
 refine⟨kd≠1/\find xs n=0,⟨fun _=>⟨rfl,fun _ _ h=>h,by omega⟩,fun _=>⟨rfl,fun _ _ h=>h,by omega⟩⟩,fun h5=>bad (by rw[applyErr,if_neg (by omega),if_neg h2,if_neg h3,if_neg h4,if_pos h5]) (by omega),fun h5=> ?_⟩
 refine(cCloneJ (hx1.ext' hN3.ext) (by omega)).slF fun a4 n4 c4 H4 e4 hN4 hR=> ?_
 have hn4:xs.length=n4:=row_len pinCells_len (by omega) hR
 have good:(kd=1->xs.length≠12)->applyErr xs ⟨kd,n,v⟩=0:=fun hlen=>by
  rw[applyErr,if_neg (by omega),if_neg h2,if_neg h3,if_neg h4,if_neg h5,if_neg (fun h=>hlen h.1 h.2)]
 have fin:∀ {Hf:Heap} {af:O} {nf cf:Nat} {ls:List Value},(kd=1->xs.length≠12)->Row base Hf 91 2 af nf cf ls->ls=(applied xs ⟨kd,n,v⟩).flatMap pinCells->∃a' n' c',Value.tuple #[.slice af nf cf,.int .i64 0]= .tuple #[.slice a' n' c',i64 (applyErr xs ⟨kd,n,v⟩)]/\Pins Hf a' n' (if applyErr xs ⟨kd,n,v⟩=0 then applied xs ⟨kd,n,v⟩ else []):=fun hlen hRf he=>by
  rw[good hlen,if_pos rfl]
  subst he
  exact⟨_,_,_,rfl,pins_of_row hRf⟩
 refine⟨fun k1=>⟨fun h12=>bad (by rw[applyErr,if_neg (by omega),if_neg h2,if_neg h3,if_neg h4,if_neg h5,if_pos ⟨k1,by omega⟩]) (by omega),fun h12=> ?_⟩,fun k1=>⟨fun k2=> ?_,fun k2=>⟨fun k3=> ?_,fun k3=>by omega⟩⟩⟩
 ·have hf0:find xs n=0:=by omega
  refine⟨fun vs Hc=>∃i:Nat,vs=[i64 i]/\i<=n4/\Row base Hc 91 2 a4 n4 c4 (xs.flatMap pinCells)/\∀p∈xs.take i,p.name<n,upTo n4 0,⟨0,rfl,by omega,hR,by simp⟩,fun m H5 hN5 hI=> ?_⟩
  obtain⟨i,hvs,hi,hR5,hlow⟩:=hI
  obtain rfl:m=(i:Int):=by simpa using hvs
  have ins:(∀p,xs[i]?=some p->n<=p.name)->∀(g:Nat)(H6:Heap),Next base H5 H6->H5 g=none->H6 g=some (boxKB 91 [.int .i64 n,.int .i64 v])->insP base [⟨b,false,182,[.int .i64 kd,.int .i64 n,.int .i64 v]⟩] H6 (fun r _ H'=>∃a' n' c',Value.tuple #[r.val [],.int .i64 0]= .tuple #[.slice a' n' c',i64 (applyErr xs ⟨kd,n,v⟩)]/\Pins H' a' n' (if applyErr xs ⟨kd,n,v⟩=0 then applied xs ⟨kd,n,v⟩ else [])) a4 n4 c4 i g:=fun hup g H6 hN6 hg0 hg=>by
   refine⟨xs.flatMap pinCells,[i64 n,i64 v],i,rfl,hi,by omega,hR5.ext hN6.ext,one_pins xs,rfl,rfl,hg,(fun hc=>hR5.apart hg0 hc),fun a7 c7 H7 hG hR7=>fin (fun _=>by omega) hR7 ?_⟩
   have:applied xs ⟨kd,n,v⟩=up n v xs:=by unfold applied;rw[if_neg (by simp;omega)]
   rw[this,up_at hlow hup hf0 (fun p hp=>by have:=hL.name hp;omega) (by omega),flat_take pinCells_len,flat_drop pinCells_len]
   simp[pinCells]
  refine⟨fun hlt=>(pins_of_row hR5).pinName (Ext.refl _) (by omega) hlt fun p hp=>⟨fun hlt2=> ?_,fun hge=>ins fun q hq=> ?_⟩,fun hge=>ins fun q hq=> ?_⟩
  ·rw[Int.toNat_natCast] at hp
   rintro r rfl
   rw[wrap_small (by omega) (by omega)]
   refine⟨rfl,⟨i+1,rfl,by omega,hR5,fun q hq=> ?_⟩,by simp[upTo];omega⟩
   rw[take_at hp] at hq
   rcases List.mem_append.1 hq with hq|hq
   ·exact hlow q hq
   ·simp at hq;subst hq;exact hlt2
  ·rw[Int.toNat_natCast] at hp
   rw[hp] at hq
   obtain rfl:=Option.some.inj hq
   omega
  ·have:=(List.getElem?_eq_some_iff.1 hq).1
   omega
 ·rcases hf with⟨g1,g2,_⟩|⟨j,p,g1,g2,g3,g4⟩
  ·exact absurd ⟨k1,g2⟩ h5
  have hj:=(List.getElem?_eq_some_iff.1 g2).1
  rw[g1]
  rintro r rfl
  rw[wrap_small (by omega) (by omega)]
  refine⟨xs.flatMap pinCells,j,j+1,by omega,by omega,by omega,by omega,by omega,hR,one_pins xs,fun H5 hG hR5=>fin (fun h=>absurd h k1) hR5 ?_⟩
  have:applied xs ⟨kd,n,v⟩=del n xs:=by unfold applied;rw[if_pos k2]
  rw[this,del_at hL g2 g4,flat_take pinCells_len,flat_drop pinCells_len]
  simp
 ·rcases hf with⟨g1,g2,_⟩|⟨j,p,g1,g2,g3,g4⟩
  ·exact absurd ⟨k1,g2⟩ h5
  have hj:=(List.getElem?_eq_some_iff.1 g2).1
  rw[g1]
  obtain⟨b5,k5,hb5,hbase,hc5,hH5,hf5,hs5,_⟩:=hR.block (by omega)
  have hnc:=hR.2.1
  have ej:Int.toNat (0+(j:Int))=j:=by omega
  refine⟨b5,0,hb5,by omega,by omega,k5,hH5,hf5,hbase,by rw[hs5,ej];omega,fun H6 hu=> ?_⟩
  rw[ej] at hu
  have hR6:=hR.upd hb5 hc5 hH5 (o:=0+j*2+1) (vs:=[.int .i64 v]) (by rw[hR.1];show 0+j*2+1+1<=n4*2;omega) hu
  refine fin (fun h=>absurd h k1) hR6 ?_
  have:applied xs ⟨kd,n,v⟩=up n v xs:=by unfold applied;rw[if_neg k2]
  rw[this,turn_at hL g2 g4,Nat.zero_add,flat_field pinCells_len (p:=p) (q:=⟨n,v⟩) (k:=1) (vs:=[.int .i64 v]) (by simp) (by cases p;simp at g4;subst g4;rfl) g2]
open Go
structure Rls where
 id:Int
 lock:List Pin
 deriving DecidableEq
structure Mail where
 agent:Int
 try_:Int
 rep:Bool
 good:Bool
 rel:Rls
 deriving DecidableEq
def relErr(r:Rls):Int:=if r.id<1∨6<r.id then 3 else lockCheck r.lock
def noRel(r:Rls):Prop:=r.id=0/\r.lock=[]
instance (r:Rls):Decidable (noRel r):=by unfold noRel;infer_instance
def badWho(m:Mail):Prop:=m.agent<0∨6<=m.agent∨m.try_<1∨200<m.try_
instance (m:Mail):Decidable (badWho m):=by unfold badWho;infer_instance
def badForm(m:Mail):Prop:=(m.rep=true/\¬noRel m.rel)∨(m.rep=false/\m.good=true)
instance (m:Mail):Decidable (badForm m):=by unfold badForm;infer_instance
def mailsFrom:List Mail->Int
 | []=>0
 |m::q=>if badWho m then 3 else if badForm m then 4 else if m.rep=true then mailsFrom q else if relErr m.rel≠0 then relErr m.rel else mailsFrom q
def mailsCheck(l:List Mail):Int:=if 40<l.length then 2 else mailsFrom l
theorem mailsFrom_zero:∀ {l:List Mail},mailsFrom l=0->∀m∈l,m.rel.lock.length<=12
 | [],_,m,h=>by cases h
 |x::q,h,m,hm=>by
  unfold mailsFrom at h
  split at h
  ·omega
  ·split at h
   ·omega
   ·rename_i h1 h2
    split at h
    ·rename_i h3
     rcases List.mem_cons.1 hm with rfl|hm
     ·unfold badForm noRel at h2
      have:m.rel.lock=[]:=by
       by_cases e:m.rel.lock=[]
       ·exact e
       ·exact absurd (.inl ⟨h3,fun h=>e h.2⟩) h2
      simp[this]
     ·exact mailsFrom_zero h m hm
    ·split at h
     ·rename_i h4;exact absurd h h4
     ·rename_i h4
      rcases List.mem_cons.1 hm with rfl|hm
      ·have h4:relErr m.rel=0:=Decidable.not_not.1 h4
       unfold relErr at h4
       split at h4
       ·omega
       ·exact(lockCheck_zero.1 h4).2
      ·exact mailsFrom_zero h m hm
theorem mailsCheck_zero{l:List Mail}(h:mailsCheck l=0):l.length<=40/\∀m∈l,m.rel.lock.length<=12:=by
 unfold mailsCheck at h
 split at h
 ·omega
 ·exact⟨by omega,mailsFrom_zero h⟩
def sendErr(l:List Mail)(m:Mail):Int:=if mailsCheck l=0 then mailsCheck [m] else mailsCheck l
def sent(l:List Mail)(m:Mail):List Mail:=if l.length<40 then l++[m] else l
def takeErr(l:List Mail)(k:Int):Int:=if mailsCheck l=0 then(if k<0∨(l.length:Int)<=k then 5 else 0) else mailsCheck l
def noMail:Mail:=⟨0,0,false,false,⟨0,[]⟩⟩
def took(l:List Mail)(k:Int):Mail:=l.getD k.toNat noMail
def left(l:List Mail)(k:Int)(tw:Bool):List Mail:=if tw=true then l else l.take k.toNat++l.drop (k.toNat+1)
def mailVal(m:Mail)(a:O)(n c:Nat):List Value:=[i64 m.agent,i64 m.try_,.bool m.rep,.bool m.good,i64 m.rel.id,.slice a n c]
def RMail:Rep Mail:=fun H r m=>∃a n c,r=mailVal m a n c/\Pins H a n m.rel.lock
theorem RMail.mono:RMail.Mono:=fun _ _ _ _ e ⟨a,n,c,h,hp⟩=>⟨a,n,c,h,hp.ext' e⟩
theorem RMail.len{H:Heap}{r:List Value}{m:Mail}(h:RMail H r m):r.length=6:=by obtain⟨a,n,c,rfl,_⟩:=h;rfl
theorem RMail.one{r:List Value}{m:Mail}{H:Heap}(h:RMail H r m):allOne r=true:=by obtain⟨a,n,c,rfl,_⟩:=h;rfl
abbrev Mails(H:Heap)(a:O)(n:Nat)(l:List Mail):Prop:=Sl RMail 6 H a n l
theorem Mails.ext'{H H':Heap}{a:O}{n:Nat}{l:List Mail}(h:Mails H a n l)(e:Ext H H'):Mails H' a n l:=Sl.ext RMail.mono h e
theorem Sl.mail{H H':Heap}{a:O}{n:Nat}{xs:List Mail}(h:Mails H a n xs)(e:Ext H H'){k:Int}(h0:0<=k)(h1:k<n){F:Int->Int->Bool->Bool->Int->O->Nat->Nat->Prop}
  (hF:∀m a n c,xs[k.toNat]?=some m->Pins H a n m.rel.lock->F m.agent m.try_ m.rep m.good m.rel.id a n c):
  ∃(b o:Nat),a=some ⟨b,o,none⟩/\0<=k/\k<n/\∃(x y:Int)(p q:Bool)(z:Int)(a':O)(n' c':Nat),(H'.cell b (o+k.toNat*6)=some (.int .i64 x)/\H'.cell b (o+k.toNat*6+1)=some (.int .i64 y)/\H'.cell b (o+k.toNat*6+2)=some (.bool p)/\
   H'.cell b (o+k.toNat*6+3)=some (.bool q)/\H'.cell b (o+k.toNat*6+4)=some (.int .i64 z)/\H'.cell b (o+k.toNat*6+5)=some (.slice a' n' c')/\True)/\F x y p q z a' n' c':=by
 obtain⟨b,o,r,x,ha,hx,⟨a',n',c',rfl,hp⟩,hc⟩:=h.get h0 h1
 exact⟨b,o,ha,h0,h1,_,_,_,_,_,_,_,_,⟨Heap.cell_next e (hc 0 _ rfl),Heap.cell_next e (hc 1 _ rfl),Heap.cell_next e (hc 2 _ rfl),Heap.cell_next e (hc 3 _ rfl),Heap.cell_next e (hc 4 _ rfl),Heap.cell_next e (hc 5 _ rfl),trivial⟩,hF x a' n' c' hx hp⟩
theorem mail_box{H:Heap}{g:Nat}{ty:TypeId}{m:Mail}{a:O}{n c:Nat}(h:H g=some (boxKB ty (mailVal m a n c)))(hp:Pins H a n m.rel.lock):Mails H (some ⟨g,0,none⟩) 1 [m]:=
 Sl.of_has (rows:=[mailVal m a n c]) (Has.of_box h (by simp) (by simp[mailVal]) rfl (by decide)) rfl fun i r x hr hx=>by
  match i,hr,hx with
  |0,hr,hx=>simp at hr hx;subst hr hx;exact⟨a,n,c,rfl,hp⟩
  |i+1,hr,hx=>simp at hr
theorem newOf_mono{H1 H2 H3:Heap}(e:Ext H1 H2):Ext (newOf H2 H3) (newOf H1 H3):=fun x k h=>by
 have h1:=newOf_away x k h
 have h2:=newOf_ext x k h
 unfold newOf
 cases h3:H1 x with
 |none=>exact h2
 |some k'=>rw[e x k' h3] at h1;cases h1
theorem Fresh.sl_new{α:Type}{enc:α->List Value}{sz:Nat}(hs:∀x,(enc x).length=sz)(h0:0<sz){H H':Heap}{e:TypeId}{a:O}{n c:Nat}{xs:List α}(h:Fresh H H' e sz a n c (xs.flatMap enc)):Sl (REnc enc) sz (newOf H H') a n xs:=
 sl_of_rowE (base:=0) (e:=e) (c:=c) hs h0 ⟨h.1,h.2.1,h.2.2.1,h.2.2.2.imp id fun⟨g,k,h1,h2,h3,h4⟩=>⟨g,k,h1,Nat.zero_le _,by unfold newOf;rw[h2];exact h3,h4⟩⟩
theorem flat_takeR{sz:Nat} :∀ {rs:List (List Value)} (k:Nat),(∀r∈rs,r.length=sz)->rs.flatten.take (k*sz)=(rs.take k).flatten
 | [],k,_=>by simp
 |x::r,0,_=>by simp
 |x::r,k+1,h=>by
  rw[List.flatten_cons,Nat.succ_mul,List.take_succ_cons,List.flatten_cons,←flat_takeR k fun y hy=>h y (List.mem_cons_of_mem _ hy),←h x List.mem_cons_self,Nat.add_comm,List.take_length_add_append]
theorem flat_dropR{sz:Nat} :∀ {rs:List (List Value)} (k:Nat),(∀r∈rs,r.length=sz)->rs.flatten.drop (k*sz)=(rs.drop k).flatten
 | [],k,_=>by simp
 |x::r,0,_=>by simp
 |x::r,k+1,h=>by
  rw[List.flatten_cons,Nat.succ_mul,List.drop_succ_cons,←flat_dropR k fun y hy=>h y (List.mem_cons_of_mem _ hy),←h x List.mem_cons_self,Nat.add_comm,List.drop_length_add_append]
theorem OwnSl.regrew{α:Type}{R:Rep α}{sz:Nat}{e:TypeId}{base:Nat}{G H H':Heap}{a a':O}{n c n' c' nn:Nat}{rows rows':List (List Value)}{xs ys:List α}(h:OwnSl R sz e base G H a n c rows xs)(hg:Grew base H H' a c a' c' nn)
  (hr:Row base H' e sz a' n' c' rows'.flatten) (hw:∀r∈rows',r.length=sz) (ha:AllR R G rows' ys):OwnSl R sz e base G H' a' n' c' rows' ys:=
 ⟨hr,hw,ha,fun x k hx=>hg.keep x k (h.sub x k hx) (by
  by_cases hc:c=0
  ·exact .inl hc
  ·exact .inr fun e=>by have:=h.clear hc x e;rw[hx] at this;cases this),fun hc g hga=>by
  rcases hg.place hc g hga with h1|⟨h1,h2⟩
  ·cases hG:G g with
   |none=>rfl
   |some k=>rw[h.sub g k hG] at h1;cases h1
  ·exact h.clear h2 g (h1▸hga)⟩
open Go
structure Recd where
 kind:Int
 agent:Int
 try_:Int
 num:Int
 good:Bool
 rel:Rls
 deriving DecidableEq
structure Agt where
 lock:List Pin
 at_:Int
 try_:Int
 going:Bool
 goal:Rls
 good:Bool
 deriving DecidableEq
def recForm(r:Recd):Prop:=(r.agent≠0/\¬(r.kind=6∨r.kind=7))∨(r.try_≠0/\¬(r.kind=1∨r.kind=2∨r.kind=3∨r.kind=6∨r.kind=7))∨(r.num≠0/\¬r.kind=5)∨(r.good=true/\¬(r.kind=3∨r.kind=7))∨(¬noRel r.rel/\¬(r.kind=1∨r.kind=4))
instance (r:Recd):Decidable (recForm r):=by unfold recForm;infer_instance
def recRange(r:Recd):Prop:=r.agent<0∨6<=r.agent∨((r.kind=1∨r.kind=2∨r.kind=3∨r.kind=6∨r.kind=7)/\(r.try_<1∨200<r.try_))∨(r.kind=5/\(r.num<1∨6<r.num))
instance (r:Recd):Decidable (recRange r):=by unfold recRange;infer_instance
def recErr(r:Recd):Int:=if r.kind<1∨9<r.kind then 4 else if recForm r then 4 else if recRange r then 3 else if r.kind=1∨r.kind=4 then relErr r.rel else 0
def agtErr(a:Agt):Int:=
 if lockCheck a.lock≠0 then lockCheck a.lock else
 if a.at_<1∨6<a.at_∨a.try_<0∨200<a.try_ then 3 else
 if a.going=true then(if a.try_=0∨a.good=true then 4 else relErr a.goal) else(if noRel a.goal then 0 else 4)
def noAgt:Agt:=⟨[],0,0,false,⟨0,[]⟩,false⟩
def agtLeft(a:Agt):List Step:=if a.going=true then diffs a.lock a.goal.lock else []
def nextErr(a:Agt)(r:Recd):Int:=
 if agtErr a≠0 then agtErr a else if recErr r≠0 then recErr r else
 if r.kind=1 then(if r.try_<=a.try_ then 7 else 0) else
 if r.kind≠2/\r.kind≠3 then 4 else
 if a.going=false∨r.try_≠a.try_∨(r.kind=2/\agtLeft a=[])∨(r.kind=3/\agtLeft a≠[]) then 7 else 0
def agtNext(a:Agt)(r:Recd):Agt:=
 if r.kind=1 then⟨a.lock,a.at_,r.try_,true,r.rel,false⟩ else
 if r.kind=2 then(match agtLeft a with
  | []=>a
  |o::_=>⟨applied a.lock o,a.at_,a.try_,a.going,a.goal,a.good⟩) else
 ⟨a.lock,a.goal.id,a.try_,false,⟨0,[]⟩,r.good⟩
def nextV(a:Agt)(r:Recd):Agt:=if nextErr a r=0 then agtNext a r else noAgt
def newAgt(r:Rls):Agt:=⟨r.lock,r.id,0,false,⟨0,[]⟩,true⟩
def replayFrom:Agt->List Recd->Except Int Agt
 |a,[]=> .ok a
 |a,r::q=>if nextErr a r=0 then replayFrom (agtNext a r) q else .error (nextErr a r)
def agtReplay(f:Rls)(l:List Recd):Except Int Agt:=if relErr f≠0 then .error (relErr f) else if 200<l.length then .error 2 else replayFrom (newAgt f) l
def okA:Except Int Agt->Agt
 | .ok a=>a
 | .error _=>noAgt
theorem relErr_zero{r:Rls}(h:relErr r=0):(1<=r.id/\r.id<=6)/\Lk r.lock/\r.lock.length<=12:=by
 unfold relErr at h
 split at h
 ·omega
 ·exact⟨by omega,lockCheck_zero.1 h⟩
theorem agtErr_zero{a:Agt}(h:agtErr a=0):(Lk a.lock/\a.lock.length<=12)/\1<=a.at_/\a.at_<=6/\0<=a.try_/\a.try_<=200/\(a.going=true->a.try_≠0/\a.good=false/\relErr a.goal=0)/\(a.going=false->noRel a.goal):=by
 unfold agtErr at h
 split at h
 ·omega
 ·rename_i h1
  have h1:=lockCheck_zero.1 (Decidable.not_not.1 h1)
  split at h
  ·omega
  ·split at h
   ·rename_i h2 h3
    split at h
    ·omega
    ·rename_i h4
     refine⟨h1,by omega,by omega,by omega,by omega,fun _=>⟨fun e=>h4 (.inl e),?_,h⟩,fun e=>by rw[h3] at e;cases e⟩
     cases hg:a.good with
     |false=>rfl
     |true=>exact absurd (.inr hg) h4
   ·rename_i h2 h3
    split at h
    ·rename_i h4;exact⟨h1,by omega,by omega,by omega,by omega,fun e=>absurd e h3,fun _=>h4⟩
    ·omega
theorem agt_goal{a:Agt}(h:agtErr a=0):Lk a.goal.lock/\a.goal.lock.length<=12:=by
 obtain⟨_,_,_,_,_,h1,h2⟩:=agtErr_zero h
 cases hg:a.going with
 |true=>exact(relErr_zero (h1 hg).2.2).2
 |false=>rw[(h2 hg).2];exact⟨Lk.nil,by simp⟩
def recVal(r:Recd)(a:O)(n c:Nat):List Value:=[i64 r.kind,i64 r.agent,i64 r.try_,i64 r.num,.bool r.good,i64 r.rel.id,.slice a n c]
def RRec:Rep Recd:=fun H r m=>∃a n c,r=recVal m a n c/\Pins H a n m.rel.lock
theorem RRec.mono:RRec.Mono:=fun _ _ _ _ e ⟨a,n,c,h,hp⟩=>⟨a,n,c,h,hp.ext' e⟩
abbrev Recs(H:Heap)(a:O)(n:Nat)(l:List Recd):Prop:=Sl RRec 7 H a n l
theorem Sl.recd{H H':Heap}{a:O}{n:Nat}{xs:List Recd}(h:Recs H a n xs)(e:Ext H H'){k:Int}(h0:0<=k)(h1:k<n){F:Int->Int->Int->Int->Bool->Int->O->Nat->Nat->Prop}
  (hF:∀m a n c,xs[k.toNat]?=some m->Pins H a n m.rel.lock->F m.kind m.agent m.try_ m.num m.good m.rel.id a n c):
  ∃(b o:Nat),a=some ⟨b,o,none⟩/\0<=k/\k<n/\∃(x y u v:Int)(q:Bool)(z:Int)(a':O)(n' c':Nat),(H'.cell b (o+k.toNat*7)=some (.int .i64 x)/\H'.cell b (o+k.toNat*7+1)=some (.int .i64 y)/\H'.cell b (o+k.toNat*7+2)=some (.int .i64 u)/\H'.cell b (o+k.toNat*7+3)=some (.int .i64 v)/\
   H'.cell b (o+k.toNat*7+4)=some (.bool q)/\H'.cell b (o+k.toNat*7+5)=some (.int .i64 z)/\H'.cell b (o+k.toNat*7+6)=some (.slice a' n' c')/\True)/\F x y u v q z a' n' c':=by
 obtain⟨b,o,r,x,ha,hx,⟨a',n',c',rfl,hp⟩,hc⟩:=h.get h0 h1
 exact⟨b,o,ha,h0,h1,_,_,_,_,_,_,_,_,_,⟨Heap.cell_next e (hc 0 _ rfl),Heap.cell_next e (hc 1 _ rfl),Heap.cell_next e (hc 2 _ rfl),Heap.cell_next e (hc 3 _ rfl),Heap.cell_next e (hc 4 _ rfl),Heap.cell_next e (hc 5 _ rfl),Heap.cell_next e (hc 6 _ rfl),trivial⟩,hF x a' n' c' hx hp⟩
abbrev recArg(r:Recd)(a:O)(n c:Nat):Value:= .agg #[.int .i64 r.kind,.int .i64 r.agent,.int .i64 r.try_,.int .i64 r.num,.bool r.good,.int .i64 r.rel.id,.slice a n c]
abbrev agtArg(x:Agt)(a:O)(n c:Nat)(ga:O)(gn gc:Nat):Value:= .agg #[.slice a n c,.int .i64 x.at_,.int .i64 x.try_,.bool x.going,.int .i64 x.goal.id,.slice ga gn gc,.bool x.good]
theorem agt_eq{x y:Agt} :x=y↔x.lock=y.lock/\x.at_=y.at_/\x.try_=y.try_/\x.going=y.going/\x.goal=y.goal/\x.good=y.good:=by cases x;cases y;simp
theorem Spec.agt{P:Program}{f:FuncId}{args:List Value}{H:Heap}{x:Agt}{e:Int}(h:Spec P f args H fun v H'=>∃a n c ga gn gc,v= .tuple #[agtArg x a n c ga gn gc,i64 e]/\Pins H' a n x.lock/\Pins H' ga gn x.goal.lock){base:Nat}
  {G:O->Nat->Nat->Int->Int->Bool->Int->O->Nat->Nat->Bool->Int->Heap->Prop} (hG:∀a n c ga gn gc H',Ext H H'->Next base H H'->Pins H' a n x.lock->Pins H' ga gn x.goal.lock->G a n c x.at_ x.try_ x.going x.goal.id ga gn gc x.good e H'):
  Spec P f args H fun v H'=>∃(a:O)(n c:Nat)(n2 n3:Int)(b:Bool)(n4:Int)(a2:O)(n5 c1:Nat)(b3:Bool)(n6:Int),v= .tuple #[.agg #[.slice a n c,.int .i64 n2,.int .i64 n3,.bool b,.int .i64 n4,.slice a2 n5 c1,.bool b3],.int .i64 n6]/\(Next base H H'->G a n c n2 n3 b n4 a2 n5 c1 b3 n6 H'):=
 h.mono fun v H' ex hv=>by
  obtain⟨a,n,c,ga,gn,gc,h1,h2,h3⟩:=hv
  exact⟨a,n,c,_,_,_,_,ga,gn,gc,_,e,h1,fun hN=>hG a n c ga gn gc H' ex hN h2 h3⟩
end Go.Vg
