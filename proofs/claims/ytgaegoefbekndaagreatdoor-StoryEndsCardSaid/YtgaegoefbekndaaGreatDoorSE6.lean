/- What is proved here: a part of the proof of laws of this seat: what a contract is, how it comes of a condition, contracts of the functions that are reached, the plain laws. -/
import Derived.Test.YtgaegoefbekndaaGreatDoorSE5
import Derived.Laws.Strings
import Derived.Lib.Bytealg
set_option linter.unusedSimpArgs false
set_option linter.unusedVariables false
set_option maxRecDepth 100000
namespace Go.Vg
open Go

def wordOf(p:Pin):List UInt8:=Lib.itoa p.name++64::Lib.itoa p.ver
def lockText(l:List Pin):List UInt8:=joinB 44 (l.map wordOf)
def readPin(w:List UInt8):Option Pin:=
 if(Lib.cut w [64]).2.2=true then
  (match num (Lib.cut w [64]).1,num (Lib.cut w [64]).2.1 with
   |some n,some v=>some ⟨n,v⟩
   |_,_=>none)
 else none
def readPins:List (List UInt8)->Option (List Pin)
 | []=>some []
 |w::ws=>match readPin w with
  |none=>none
  |some p=>(readPins ws).map (p:: ·)
def readWords(s:List UInt8):Option (List Pin):=if s=[] then some [] else readPins (cuts 44 s)
def lockRead(s:List UInt8):Except Int (List Pin):=
 match readWords s with
 |none=> .error 1
 |some l=>if lockCheck l=0 then .ok l else .error (lockCheck l)
theorem pin_range{l:List Pin}(h:lockCheck l=0){p:Pin}(hp:p∈l):1<=p.name/\p.name<=20/\1<=p.ver/\p.ver<=99:=(lockCheck_zero.1 h).1.name hp
theorem readPin_word{p:Pin}(h1:1<=p.name/\p.name<=20/\1<=p.ver/\p.ver<=99):readPin (wordOf p)=some p:=by
 unfold readPin wordOf
 rw[cut_hit (itoa_not _ (by decide) (by decide))]
 dsimp only
 rw[num_itoa (by omega) (by omega),num_itoa (by omega) (by omega)]
 rfl
theorem word_of_readPin{w:List UInt8}{p:Pin}(h:readPin w=some p):wordOf p=w:=by
 unfold readPin at h
 rcases cut_cases 64 w with⟨_,e⟩|⟨a,b,rfl,h2,e⟩
 ·rw[e] at h;simp at h
 ·rw[e] at h
  dsimp only at h
  rw[if_pos rfl] at h
  split at h
  ·rename_i n v hn hv
   obtain rfl:=Option.some.inj h
   rw[wordOf,(num_some hn).1,(num_some hv).1]
  ·cases h
theorem word_bytes{p:Pin}{c:UInt8}(h1:c.toNat≠45)(h2:c.toNat<48∨57<c.toNat)(h3:c≠64):c∉wordOf p:=by
 unfold wordOf
 simp only[List.mem_append,List.mem_cons,not_or]
 exact⟨itoa_not _ h1 h2,h3,itoa_not _ h1 h2⟩
theorem readPins_words:∀ {l:List Pin},(∀p∈l,1<=p.name/\p.name<=20/\1<=p.ver/\p.ver<=99)->readPins (l.map wordOf)=some l
 | [],_=>rfl
 |p::r,h=>by
  rw[List.map_cons,readPins,readPin_word (h p (by simp)),readPins_words fun q hq=>h q (by simp[hq])]
  rfl
theorem words_of_readPins:∀ {ws:List (List UInt8)} {l:List Pin},readPins ws=some l->l.map wordOf=ws
 | [],l,h=>by obtain rfl:=Option.some.inj h;rfl
 |w::ws,l,h=>by
  rw[readPins] at h
  split at h
  ·cases h
  ·rename_i p hp
   obtain⟨m,hm,rfl⟩:=Option.map_eq_some_iff.1 h
   rw[List.map_cons,word_of_readPin hp,words_of_readPins hm]
theorem wordOf_ne(p:Pin):wordOf p≠[]:=by unfold wordOf;simp
theorem lockText_nil{l:List Pin} :lockText l=[]↔l=[]:=by
 unfold lockText
 cases l with
 |nil=>simp[joinB]
 |cons p r=>simp[joinB,wordOf_ne]
theorem readWords_text{l:List Pin}(h:∀p∈l,1<=p.name/\p.name<=20/\1<=p.ver/\p.ver<=99):readWords (lockText l)=some l:=by
 unfold readWords
 by_cases hl:l=[]
 ·subst hl;rfl
 ·rw[if_neg fun e=>hl (lockText_nil.1 e),lockText,cuts_joinB (by simpa using hl) fun w hw=>by
   obtain⟨p,_,rfl⟩:=List.mem_map.1 hw
   exact word_bytes (by decide) (by decide) (by decide),readPins_words h]
theorem text_of_readWords{s:List UInt8}{l:List Pin}(h:readWords s=some l):lockText l=s:=by
 unfold readWords at h
 split at h
 ·rename_i e
  obtain rfl:=Option.some.inj h
  rw[e];rfl
 ·rw[lockText,words_of_readPins h,joinB_cuts]
theorem lockRead_text{l:List Pin}(h:lockCheck l=0):lockRead (lockText l)= .ok l:=by
 rw[lockRead,readWords_text fun p hp=>pin_range h hp]
 dsimp only
 rw[if_pos h]
theorem lockRead_ok{s:List UInt8}{l:List Pin}(h:lockRead s= .ok l):lockText l=s/\lockCheck l=0:=by
 unfold lockRead at h
 split at h
 ·cases h
 ·rename_i m hm
  split at h
  ·rename_i h0
   obtain rfl:=Except.ok.inj h
   exact⟨text_of_readWords hm,h0⟩
  ·cases h
theorem lockRead_err{s:List UInt8}{e:Int}(h:lockRead s= .error e):e≠0:=by
 unfold lockRead at h
 split at h
 ·obtain rfl:=Except.error.inj h;decide
 ·split at h
  ·cases h
  ·rename_i h0
   obtain rfl:=Except.error.inj h;exact h0
theorem word_len{p:Pin}(h:1<=p.name/\p.name<=20/\1<=p.ver/\p.ver<=99):(wordOf p).length<=5:=by
 unfold wordOf
 have h1:=itoa_short (n:=p.name) (by omega) (by omega)
 have h2:=itoa_short (n:=p.ver) (by omega) (by omega)
 simp;omega
theorem flat_words:∀ {ws:List (List UInt8)} {k:Nat},(∀w∈ws,w.length<=k)->(ws.flatMap fun x=>(44:UInt8)::x).length<=ws.length*(k+1)
 | [],k,_=>by simp
 |w::r,k,h=>by
  have h1:=h w (by simp)
  have h2:=flat_words (ws:=r) (k:=k) fun x hx=>h x (by simp[hx])
  simp only[List.flatMap_cons,List.length_append,List.length_cons,Nat.succ_mul]
  omega
theorem lockText_len{l:List Pin}(h:lockCheck l=0):(lockText l).length<=72:=by
 have h1:=(lockCheck_zero.1 h).2
 unfold lockText
 cases l with
 |nil=>simp[joinB]
 |cons p r=>
  have hw:∀w∈r.map wordOf,w.length<=5:=fun w hw=>by
   obtain⟨q,hq,rfl⟩:=List.mem_map.1 hw
   exact word_len (pin_range h (by simp[hq]))
  have h2:=flat_words hw
  have h3:=word_len (pin_range h (p:=p) (by simp))
  simp only[List.map_cons,joinB,List.length_append,List.length_map] at h2⊢
  simp at h1
  omega
theorem lockText_byte{l:List Pin}{c:UInt8}(h1:c.toNat≠45)(h2:c.toNat<48∨57<c.toNat)(h3:c≠64)(h4:c≠44):c∉lockText l:=by
 unfold lockText
 cases l with
 |nil=>simp[joinB]
 |cons p r=>
  simp only[List.map_cons,joinB,List.mem_append,List.mem_flatMap,List.mem_cons,not_or,not_exists,not_and,List.mem_map]
  refine⟨word_bytes h1 h2 h3,?_⟩
  rintro w ⟨q,_,rfl⟩
  exact⟨h4,word_bytes h1 h2 h3⟩

def goodNo(b:Bool):Int:=if b=true then 1 else 0
def recNums(r:Recd):List Int:=[r.kind,r.agent,r.try_,r.num,goodNo r.good,r.rel.id]
def recText(r:Recd):List UInt8:=(recNums r).flatMap (fun n=>Lib.itoa n++[32])++61::lockText r.rel.lock
def nums:List (List UInt8)->Option (List Int)
 | []=>some []
 |w::ws=>match num w with
  |none=>none
  |some n=>(nums ws).map (n:: ·)
def recRead(s:List UInt8):Except Int Recd:=
 match cuts 32 s with
 | [w0,w1,w2,w3,w4,w5,w6]=>
  if w6.head?=some 61 then
   (match nums [w0,w1,w2,w3,w4,w5] with
    |some [k,a,tr,n,g,id]=>
     if g<0∨1<g then .error 1 else
     (match lockRead (w6.drop 1) with
     | .error e=> .error e
     | .ok l=>let r:Recd:=⟨k,a,tr,n,decide (g=1),⟨id,l⟩⟩
      if recErr r=0 then .ok r else .error (recErr r))
    |_=> .error 1)
  else .error 1
 |_=> .error 1
theorem recErr_lock{r:Recd}(h:recErr r=0):lockCheck r.rel.lock=0:=by
 unfold recErr at h
 split at h
 ·omega
 ·rename_i hk
  split at h
  ·omega
  ·rename_i hf
   split at h
   ·omega
   ·split at h
    ·have:=(relErr_zero h).2
     exact lockCheck_zero.2 this
    ·rename_i hn
     unfold recForm at hf
     have:noRel r.rel:=Decidable.byContradiction fun hx=>hf (.inr (.inr (.inr (.inr ⟨hx,hn⟩))))
     rw[this.2];rfl
theorem recErr_nums{r:Recd}(h:recErr r=0):∀n∈recNums r,0<=n/\n<=200:=by
 unfold recErr at h
 split at h
 ·omega
 ·rename_i hk
  split at h
  ·omega
  ·rename_i hf
   split at h
   ·omega
   ·rename_i hr
    have hid:0<=r.rel.id/\r.rel.id<=6:=by
     split at h
     ·have:=(relErr_zero h).1;omega
     ·rename_i hn
      have:noRel r.rel:=Decidable.byContradiction fun hx=>hf (by unfold recForm;exact .inr (.inr (.inr (.inr ⟨hx,hn⟩))))
      have:=this.1;omega
    unfold recForm at hf
    unfold recRange at hr
    have hg:0<=goodNo r.good/\goodNo r.good<=1:=by unfold goodNo;split<;>omega
    simp only[not_or,not_and,Decidable.not_not] at hf hr
    simp only[recNums,List.mem_cons,List.not_mem_nil,or_false]
    rintro n (rfl|rfl|rfl|rfl|rfl|rfl)<;>omega
theorem recText_words(r:Recd):recText r=joinB 32 ((recNums r).map Lib.itoa++[61::lockText r.rel.lock]):=by
 simp[recText,recNums,joinB]
theorem nums_itoa:∀ {l:List Int},(∀n∈l,-9223372036854775808<=n/\n<=9223372036854775807)->nums (l.map Lib.itoa)=some l
 | [],_=>rfl
 |n::r,h=>by
  rw[List.map_cons,nums,num_itoa (h n (by simp)).1 (h n (by simp)).2,nums_itoa fun m hm=>h m (by simp[hm])]
  rfl
theorem itoa_of_nums:∀ {ws:List (List UInt8)} {l:List Int},nums ws=some l->l.map Lib.itoa=ws
 | [],l,h=>by obtain rfl:=Option.some.inj h;rfl
 |w::ws,l,h=>by
  rw[nums] at h
  split at h
  ·cases h
  ·rename_i n hn
   obtain⟨m,hm,rfl⟩:=Option.map_eq_some_iff.1 h
   rw[List.map_cons,(num_some hn).1,itoa_of_nums hm]
theorem recText_cuts(r:Recd):cuts 32 (recText r)=[Lib.itoa r.kind,Lib.itoa r.agent,Lib.itoa r.try_,Lib.itoa r.num,Lib.itoa (goodNo r.good),Lib.itoa r.rel.id,61::lockText r.rel.lock]:=by
 rw[recText_words,cuts_joinB (by simp)]
 ·rfl
 ·intro w hw
  rcases List.mem_append.1 hw with hw|hw
  ·obtain⟨n,_,rfl⟩:=List.mem_map.1 hw
   exact itoa_not _ (by decide) (by decide)
  ·simp only[List.mem_singleton] at hw
   subst hw
   simp only[List.mem_cons,not_or]
   exact⟨by decide,lockText_byte (by decide) (by decide) (by decide) (by decide)⟩
theorem recRead_text{r:Recd}(h:recErr r=0):recRead (recText r)= .ok r:=by
 have hn:=recErr_nums h
 have hg:goodNo r.good=0∨goodNo r.good=1:=by unfold goodNo;split<;>simp
 have h5:=nums_itoa (l:=recNums r) fun n hm=>by have:=hn n hm;omega
 simp only[recNums,List.map_cons,List.map_nil] at h5
 unfold recRead
 rw[recText_cuts]
 dsimp only
 rw[if_pos (by rfl),h5]
 dsimp only
 rw[if_neg (by omega),List.drop_succ_cons,List.drop_zero,lockRead_text (recErr_lock h)]
 have he:(⟨r.kind,r.agent,r.try_,r.num,decide (goodNo r.good=1),⟨r.rel.id,r.rel.lock⟩⟩:Recd)=r:=by
  have:decide (goodNo r.good=1)=r.good:=by unfold goodNo;cases r.good<;>simp
  rw[this]
 dsimp only
 rw[he,if_pos h]
theorem recRead_ok{s:List UInt8}{r:Recd}(h:recRead s= .ok r):recText r=s/\recErr r=0:=by
 unfold recRead at h
 split at h
 ·rename_i w0 w1 w2 w3 w4 w5 w6 hc
  split at h
  case isFalse=>cases h
  rename_i h61
  obtain⟨t,rfl⟩:∃t,w6=61::t:=by
   cases w6 with
   |nil=>cases h61
   |cons x t=>exact⟨t,by simp at h61;rw[h61]⟩
  rw[List.drop_succ_cons,List.drop_zero] at h
  split at h
  ·rename_i k a tr n g id hn
   split at h
   ·cases h
   ·rename_i hg
    split at h
    ·cases h
    ·rename_i l hl
     dsimp only at h
     split at h
     ·rename_i h0
      obtain rfl:=Except.ok.inj h
      refine⟨?_,h0⟩
      have e1:=itoa_of_nums hn
      have e2:=(lockRead_ok hl).1
      have e3:goodNo (decide (g=1))=g:=by
       unfold goodNo
       by_cases e:g=1
       ·simp[e]
       ·simp[e];omega
      rw[recText_words,←joinB_cuts 32 s,hc]
      simp only[List.map_cons,List.map_nil] at e1
      simp only[recNums,e3,List.map_cons,List.map_nil,e2]
      rw[show∀(a b c d e f g:List UInt8),[a,b,c,d,e,f]++[g]=[a,b,c,d,e,f,g] from fun _ _ _ _ _ _ _=>rfl]
      injection e1 with a1 e1
      injection e1 with a2 e1
      injection e1 with a3 e1
      injection e1 with a4 e1
      injection e1 with a5 e1
      injection e1 with a6 e1
      rw[a1,a2,a3,a4,a5,a6]
     ·cases h
  ·cases h
 ·cases h
theorem recRead_err{s:List UInt8}{e:Int}(h:recRead s= .error e):e≠0:=by
 unfold recRead at h
 split at h
 ·split at h
  ·split at h
   ·split at h
    ·obtain rfl:=Except.error.inj h;decide
    ·split at h
     ·rename_i hl
      obtain rfl:=Except.error.inj h
      exact lockRead_err hl
     ·dsimp only at h
      split at h
      ·cases h
      ·rename_i h0
       obtain rfl:=Except.error.inj h;exact h0
   ·obtain rfl:=Except.error.inj h;decide
  ·obtain rfl:=Except.error.inj h;decide
 ·obtain rfl:=Except.error.inj h;decide
theorem recText_len{r:Recd}(h:recErr r=0):(recText r).length<=97:=by
 have hn:=recErr_nums h
 have h1:=lockText_len (recErr_lock h)
 have h2:∀n∈recNums r,(Lib.itoa n).length<=3:=fun n hm=>itoa_short3 (hn n hm).1 (by have:=(hn n hm).2;omega)
 simp only[recNums,List.mem_cons,List.not_mem_nil,or_false] at h2
 have a1:=h2 _ (.inl rfl)
 have a2:=h2 _ (.inr (.inl rfl))
 have a3:=h2 _ (.inr (.inr (.inl rfl)))
 have a4:=h2 _ (.inr (.inr (.inr (.inl rfl))))
 have a5:=h2 _ (.inr (.inr (.inr (.inr (.inl rfl)))))
 have a6:=h2 _ (.inr (.inr (.inr (.inr (.inr rfl)))))
 simp[recText,recNums]
 omega
theorem recText_line{r:Recd} :(10:UInt8)∉recText r:=by
 simp only[recText,List.mem_append,List.mem_flatMap,List.mem_cons,List.not_mem_nil,or_false,not_or,not_exists,not_and]
 refine⟨fun n _=>⟨itoa_not _ (by decide) (by decide),by decide⟩,by decide,lockText_byte (by decide) (by decide) (by decide) (by decide)⟩
open Go

def linesW(most:Nat):Nat->List (List UInt8)->List Recd×Nat×Int
 |_,[]=>([],0,0)
 |_,[w]=>([],0,if w=[] then 0 else 9)
 |k,w::x::ws=>
  match recRead w with
  | .error e=>([],0,e)
  | .ok r=>if k=most then([],0,2) else(r::(linesW most (k+1) (x::ws)).1,w.length+1+(linesW most (k+1) (x::ws)).2.1,(linesW most (k+1) (x::ws)).2.2)
def linesF(most k:Nat)(s:List UInt8):List Recd×Nat×Int:=linesW most k (cuts 10 s)
theorem linesF_nil{most k:Nat} :linesF most k []=([],0,0):=rfl
theorem linesF_torn{most k:Nat}{s:List UInt8}(h:(10:UInt8)∉s)(hs:s≠[]):linesF most k s=([],0,9):=by
 rw[linesF,cuts_word h,linesW,if_neg hs]
theorem linesF_line{most k:Nat}{w t:List UInt8}(h:(10:UInt8)∉w):linesF most k (w++10::t)=match recRead w with
  | .error e=>([],0,e)
  | .ok r=>if k=most then([],0,2) else(r::(linesF most (k+1) t).1,w.length+1+(linesF most (k+1) t).2.1,(linesF most (k+1) t).2.2):=by
 rw[linesF,cuts_more h]
 unfold linesF
 cases hc:cuts 10 t with
 |nil=>exact absurd hc (cuts_ne 10 t)
 |cons x ws=>rfl
theorem linesF_err{most k:Nat}{w t:List UInt8}{e:Int}(h:(10:UInt8)∉w)(hr:recRead w= .error e):linesF most k (w++10::t)=([],0,e):=by
 rw[linesF_line h,hr]
theorem linesF_many{most:Nat}{w t:List UInt8}{r:Recd}(h:(10:UInt8)∉w)(hr:recRead w= .ok r):linesF most most (w++10::t)=([],0,2):=by
 rw[linesF_line h,hr];simp
theorem linesF_more{most k:Nat}{w t:List UInt8}{r:Recd}(h:(10:UInt8)∉w)(hr:recRead w= .ok r)(hk:k≠most):
  linesF most k (w++10::t)=(r::(linesF most (k+1) t).1,w.length+1+(linesF most (k+1) t).2.1,(linesF most (k+1) t).2.2):=by
 rw[linesF_line h,hr];simp[hk]
def recsText(rs:List Recd):List UInt8:=rs.flatMap fun r=>recText r++[10]
theorem recsText_cons{r:Recd}{rs:List Recd} :recsText (r::rs)=recText r++10::recsText rs:=by simp[recsText]
theorem recsText_app{rs qs:List Recd} :recsText (rs++qs)=recsText rs++recsText qs:=by simp[recsText]
theorem linesF_recs{most:Nat} :∀ {rs:List Recd} {k:Nat} {t:List UInt8},(∀r∈rs,recErr r=0)->k+rs.length<=most->(10:UInt8)∉t->
  linesF most k (recsText rs++t)=(rs,(recsText rs).length,if t=[] then 0 else 9)
 | [],k,t,_,_,ht=>by
  rw[show recsText []++t=t from rfl,linesF,cuts_word ht]
  rfl
 |r::rs,k,t,h,hk,ht=>by
  have hl:(r::rs).length=rs.length+1:=rfl
  rw[recsText_cons,List.append_assoc,List.cons_append,linesF_more recText_line (recRead_text (h r (by simp))) (by omega),linesF_recs (fun q hq=>h q (by simp[hq])) (by omega) ht]
  simp[recsText]
  omega
theorem linesF_ok{most:Nat} :∀(n:Nat) {s:List UInt8} {k:Nat},s.length<=n->k<=most->(∀r∈(linesF most k s).1,recErr r=0)/\k+(linesF most k s).1.length<=most/\
  (linesF most k s).2.1<=s.length/\s.take (linesF most k s).2.1=recsText (linesF most k s).1/\((linesF most k s).2.2=0->(linesF most k s).2.1=s.length)
 |0,s,k,hn,hk=>by
  obtain rfl:s=[]:=List.length_eq_zero_iff.1 (by omega)
  rw[linesF_nil]
  exact⟨by simp,by simpa using hk,by simp,rfl,fun _=>rfl⟩
 |n+1,s,k,hn,hk=>by
  rcases cut_cases 10 s with⟨h1,_⟩|⟨w,t,rfl,hw,_⟩
  ·by_cases hs:s=[]
   ·subst hs;rw[linesF_nil]
    exact⟨by simp,by simpa using hk,by simp,rfl,fun _=>rfl⟩
   ·rw[linesF_torn h1 hs]
    exact⟨by simp,by simpa using hk,by simp,rfl,fun h=>by cases h⟩
  ·cases hr:recRead w with
   |error e=>
    rw[linesF_err hw hr]
    exact⟨by simp,by simpa using hk,by simp,rfl,fun h=>absurd h (recRead_err hr)⟩
   |ok r=>
    by_cases hkm:k=most
    ·subst hkm
     rw[linesF_many hw hr]
     exact⟨by simp,by simp,by simp,rfl,fun h=>by cases h⟩
    ·rw[linesF_more hw hr hkm]
     have hl:(w++10::t).length=w.length+1+t.length:=by simp;omega
     obtain⟨i1,i2,i3,i4,i5⟩:=linesF_ok (most:=most) n (s:=t) (k:=k+1) (by omega) (by omega)
     obtain⟨hr1,hr2⟩:=recRead_ok hr
     refine⟨fun q hq=> ?_,?_,?_,?_,fun h=> ?_⟩
     ·rcases List.mem_cons.1 hq with rfl|hq
      ·exact hr2
      ·exact i1 q hq
     ·simp only[List.length_cons];omega
     ·dsimp only;omega
     ·dsimp only
      rw[recsText_cons,hr1,←i4]
      rw[show w++10::t=(w++[10])++t from by simp,List.take_append,show w++10::t.take (linesF most (k+1) t).2.1=(w++[10])++t.take (linesF most (k+1) t).2.1 from by simp]
      congr 1
      ·rw[List.take_of_length_le (by simp)]
      ·congr 1;simp
     ·dsimp only at h⊢
      have:=i5 h;omega
structure Dsk where
 safe:List UInt8
 wait:List UInt8
deriving DecidableEq
def dsk0:Dsk:=⟨[],[]⟩
def dskErr(d:Dsk):Int:=
 if 60000<d.safe.length then 2 else if 60000-d.safe.length<d.wait.length then 2 else(linesF 200 0 d.safe).2.2
def dskPut(d:Dsk)(r:Recd):Except Int Dsk:=
 if dskErr d=0 then
  (if recErr r=0 then
   (if 60000<d.safe.length+d.wait.length+(recText r).length+1 then .error 2 else .ok ⟨d.safe,d.wait++(recText r++[10])⟩)
  else .error (recErr r))
 else .error (dskErr d)
def dskSync(d:Dsk):Except Int Dsk:=
 if dskErr d=0 then(if dskErr ⟨d.safe++d.wait,[]⟩=0 then .ok ⟨d.safe++d.wait,[]⟩ else .error (dskErr ⟨d.safe++d.wait,[]⟩)) else .error (dskErr d)
def dskMore(d:Dsk):List Recd×Nat×Int:=linesF (200-(linesF 200 0 d.safe).1.length) 0 d.wait
def dskBack(d:Dsk):Dsk:=⟨d.safe++d.wait.take (dskMore d).2.1,[]⟩
def dskRecs(d:Dsk):List Recd:=(linesF 200 0 d.safe).1++(dskMore d).1
theorem dskErr_zero{d:Dsk}(h:dskErr d=0):d.safe.length<=60000/\d.safe.length+d.wait.length<=60000/\(linesF 200 0 d.safe).2.2=0:=by
 unfold dskErr at h
 split at h
 ·cases h
 ·split at h
  ·cases h
  ·exact⟨by omega,by omega,h⟩
theorem dskErr_recs{rs:List Recd}{w:List UInt8}(h:∀r∈rs,recErr r=0)(hn:rs.length<=200)(hl:(recsText rs).length+w.length<=60000):dskErr ⟨recsText rs,w⟩=0:=by
 have:=linesF_recs (most:=200) (k:=0) (t:=[]) h (by omega) (by simp)
 rw[List.append_nil] at this
 unfold dskErr
 dsimp only
 rw[if_neg (by omega),if_neg (by omega),this]
 rfl
theorem lines_recs{rs:List Recd}{most:Nat}(h:∀r∈rs,recErr r=0)(hn:rs.length<=most):linesF most 0 (recsText rs)=(rs,(recsText rs).length,0):=by
 have:=linesF_recs (most:=most) (k:=0) (t:=[]) h (by omega) (by simp)
 rw[List.append_nil] at this
 rw[this];rfl
theorem recsText_len{rs:List Recd}(h:∀r∈rs,recErr r=0):(recsText rs).length<=rs.length*98:=by
 induction rs with
 |nil=>simp[recsText]
 |cons r t ih=>
  have h1:=recText_len (h r (by simp))
  have h2:=ih fun q hq=>h q (by simp[hq])
  rw[recsText_cons]
  simp only[List.length_append,List.length_cons,Nat.succ_mul]
  omega
theorem dskPut_ok{d x:Dsk}{r:Recd}(h:dskPut d r= .ok x):dskErr d=0/\recErr r=0/\d.safe.length+d.wait.length+(recText r).length+1<=60000/\x=⟨d.safe,d.wait++(recText r++[10])⟩:=by
 unfold dskPut at h
 split at h
 ·rename_i h1
  split at h
  ·rename_i h2
   split at h
   ·cases h
   ·rename_i h3
    exact⟨h1,h2,by omega,(Except.ok.inj h).symm⟩
  ·cases h
 ·cases h
theorem dsk_again{rs:List Recd}(h:∀r∈rs,recErr r=0)(hn:rs.length<=200)(hl:(recsText rs).length<=60000):
  dskErr ⟨recsText rs,[]⟩=0/\dskRecs ⟨recsText rs,[]⟩=rs/\dskBack ⟨recsText rs,[]⟩=⟨recsText rs,[]⟩:=by
 have hL:=lines_recs (most:=200) h hn
 refine⟨dskErr_recs h hn (by simpa using hl),?_,?_⟩
 ·unfold dskRecs dskMore
  dsimp only
  rw[hL,linesF_nil];simp
 ·unfold dskBack;simp
open Go
structure Kn where
 st:Int
 try_:Int
 back:Bool
 deriving DecidableEq
structure Conf where
 first:Rls
 rules:List Rule
 waves:List (List Int)
 bud:Int
structure Ldr where
 rels:List Rls
 now:Int
 goal:Int
 back:Bool
 ags:List Kn
 nx:Int
 deriving DecidableEq
def agentsFrom:Int->List (List Int)->Int
 |n,[]=>n
 |n,w::q=>if 6<n+min 7 (w.length:Int) then n+min 7 (w.length:Int) else agentsFrom (n+min 7 (w.length:Int)) q
def agentsOf(ws:List (List Int)):Int:=agentsFrom 0 ws
def refAgents(ws:List (List Int)):Int:=if 6<ws.flatten.length then 7 else ws.flatten.length
theorem agentsFrom_spec:∀(ws:List (List Int))(n:Int),0<=n->n<=6->(n+ws.flatten.length<=6/\agentsFrom n ws=n+ws.flatten.length)∨(6<n+ws.flatten.length/\6<agentsFrom n ws)
 | [],n,h0,h6=> .inl (by simp[agentsFrom];omega)
 |w::q,n,h0,h6=>by
  unfold agentsFrom
  simp only[List.flatten_cons,List.length_append]
  split
  ·exact .inr (by omega)
  ·rename_i h
   have hm:min 7 (w.length:Int)=w.length:=by omega
   rw[hm] at h⊢
   rcases agentsFrom_spec q (n+w.length) (by omega) (by omega) with h1|h1
   ·exact .inl (by omega)
   ·exact .inr (by omega)
theorem agentsOf_spec(ws:List (List Int)):(ws.flatten.length<=6/\agentsOf ws=ws.flatten.length/\refAgents ws=ws.flatten.length)∨(6<ws.flatten.length/\6<agentsOf ws/\refAgents ws=7):=by
 rcases agentsFrom_spec ws 0 (by omega) (by omega) with h|h
 ·exact .inl ⟨by omega,by unfold agentsOf;omega,by unfold refAgents;rw[if_neg (by omega)]⟩
 ·exact .inr ⟨by omega,by unfold agentsOf;omega,by unfold refAgents;rw[if_pos (by omega)]⟩
theorem agents_same{ws:List (List Int)}(h:waveCheck ws (agentsOf ws)=0):refAgents ws=agentsOf ws/\1<=agentsOf ws/\agentsOf ws<=6:=by
 have hz:=waveCheck_zero h
 rcases agentsOf_spec ws with⟨h,h1,h2⟩|⟨h,h1,h2⟩
 ·exact⟨by omega,hz.1,hz.2.1⟩
 ·omega
def cfgErr(c:Conf):Int:=
 if relErr c.first≠0 then relErr c.first else
 if c.first.id≠1∨c.bud<0∨3<c.bud then 3 else
 if brokenErr c.first.lock c.rules≠0 then brokenErr c.first.lock c.rules else
 if 0<=broken c.first.lock c.rules then 8 else waveCheck c.waves (agentsOf c.waves)
def relsErr(rules:List Rule):Int->List Rls->Int
 |_,[]=>0
 |i,r::q=>if brokenErr r.lock rules≠0 then brokenErr r.lock rules else if 0<=broken r.lock rules then 8 else if r.id≠i+1 then 4 else relsErr rules (i+1) q
def badKn(nx:Int)(a:Kn):Prop:=a.st<0∨3<a.st∨a.try_<0∨nx<=a.try_
instance (nx:Int)(a:Kn):Decidable (badKn nx a):=by unfold badKn;infer_instance
def oddKn(goal:Int)(back:Bool)(a:Kn):Prop:=(a.st≠0/\(goal=0∨a.try_=0))∨(a.back=true/\(back=false∨a.st=0))
instance (goal:Int)(back:Bool)(a:Kn):Decidable (oddKn goal back a):=by unfold oddKn;infer_instance
def knErr(goal nx:Int)(back:Bool):List Kn->Int
 | []=>0
 |a::q=>if badKn nx a then 3 else if oddKn goal back a then 4 else knErr goal nx back q
def ldrRange(l:Ldr):Prop:=l.now<1∨(l.rels.length:Int)<l.now∨l.goal<0∨(l.rels.length:Int)<l.goal∨l.nx<1∨201<l.nx
instance (l:Ldr):Decidable (ldrRange l):=by unfold ldrRange;infer_instance
def ldrForm(c:Conf)(l:Ldr):Prop:=l.goal=l.now∨(l.goal=0/\l.back=true)∨(l.ags.length:Int)≠agentsOf c.waves∨l.rels[0]?≠some c.first
instance (c:Conf)(l:Ldr):Decidable (ldrForm c l):=by unfold ldrForm;infer_instance
def ldrErr(c:Conf)(l:Ldr):Int:=
 if cfgErr c≠0 then cfgErr c else
 if l.rels.length=0∨6<l.rels.length then 2 else
 if relsErr c.rules 0 l.rels≠0 then relsErr c.rules 0 l.rels else
 if ldrRange l then 3 else if ldrForm c l then 4 else knErr l.goal l.nx l.back l.ags
def thr(l:List Kn):List Bool:=l.map fun a=>decide (a.st=2∨a.st=3)
def cnt(k:Int)(l:List Kn):Int:=(l.filter fun a=>decide (a.st=k)).length
def noLdr:Ldr:=⟨[],0,0,false,[],0⟩
def newLdr(c:Conf):Ldr:=⟨[c.first],1,0,false,List.replicate (agentsOf c.waves).toNat ⟨0,0,false⟩,1⟩
def turnOf(c:Conf)(l:Ldr)(k:Int):Bool:=match l.ags[k.toNat]? with
 |none=>false
 |some a=>if l.back=true then decide (a.st≠0/\a.back=false) else decide (waveCheck c.waves l.ags.length=0/\a.st=0/\waveOf c.waves k=waveNow c.waves (thr l.ags)/\cnt 3 l.ags<=c.bud)
def busy(a:Kn):Prop:=a.st=1∨(a.st≠0/\a.back=false)
instance (a:Kn):Decidable (busy a):=by unfold busy;infer_instance
def overOf(c:Conf)(l:Ldr):Bool:=if l.back=false then decide (cnt 3 l.ags<=c.bud/\false∉thr l.ags) else decide (∀a∈l.ags,¬busy a)
def goalOf(l:Ldr):Int:=if l.back=true then l.now else l.goal
def ledKind(c:Conf)(l:Ldr)(r:Recd):Int:=
 if r.kind=4 then(if l.rels.length=6 then 2 else if r.rel.id≠l.rels.length+1 then 7 else if brokenErr r.rel.lock c.rules≠0 then brokenErr r.rel.lock c.rules else if 0<=broken r.rel.lock c.rules then 8 else 0) else
 if r.kind=5 then(if l.goal≠0 then 7 else if(l.rels.length:Int)<r.num then 5 else if r.num=l.now then 6 else 0) else
 if r.kind=6∨r.kind=7 then(if(l.ags.length:Int)<=r.agent then 5 else
  if r.kind=7 then(match l.ags[r.agent.toNat]? with|none=>5|some a=>if a.st≠1∨r.try_≠a.try_ then 7 else 0) else
  (if l.goal=0∨r.try_≠l.nx∨turnOf c l r.agent=false then 7 else 0)) else
 if r.kind=8 then(if l.goal=0∨l.back=true then 7 else 0) else
 if r.kind=9 then(if l.goal=0∨overOf c l=false then 7 else 0) else 4
def ledErr(c:Conf)(l:Ldr)(r:Recd):Int:=
 if ldrErr c l≠0 then ldrErr c l else if recErr r≠0 then recErr r else ledKind c l r
def got(r:Recd)(a:Kn):Kn:=⟨if r.good=true then 2 else 3,a.try_,a.back⟩
def ledNext(l:Ldr)(r:Recd):Ldr:=
 if r.kind=4 then{ l with rels:=l.rels++[r.rel] } else
 if r.kind=5 then{ l with goal:=r.num } else
 if r.kind=6 then{ l with ags:=l.ags.set r.agent.toNat ⟨1,r.try_,l.back⟩,nx:=l.nx+1 } else
 if r.kind=7 then{ l with ags:=(match l.ags[r.agent.toNat]? with|none=>l.ags|some a=>l.ags.set r.agent.toNat (got r a)) } else
 if r.kind=8 then{ l with back:=true } else
 { l with now:=(if l.back=false then l.goal else l.now),goal:=0,back:=false,ags:=l.ags.map fun a=>⟨0,a.try_,false⟩ }
def ledV(c:Conf)(l:Ldr)(r:Recd):Ldr:=if ledErr c l r=0 then ledNext l r else noLdr
def ledFrom(c:Conf):Ldr->List Recd->Except Int Ldr
 |l,[]=> .ok l
 |l,r::q=>if ledErr c l r=0 then ledFrom c (ledNext l r) q else .error (ledErr c l r)
def ledReplay(c:Conf)(rs:List Recd):Except Int Ldr:=if cfgErr c≠0 then .error (cfgErr c) else if 200<rs.length then .error 2 else ledFrom c (newLdr c) rs
def okLd:Except Int Ldr->Ldr
 | .ok l=>l
 | .error _=>noLdr
theorem cfgErr_zero{c:Conf}(h:cfgErr c=0):relErr c.first=0/\c.first.id=1/\0<=c.bud/\c.bud<=3/\brokenErr c.first.lock c.rules=0/\broken c.first.lock c.rules<0/\waveCheck c.waves (agentsOf c.waves)=0:=by
 unfold cfgErr at h
 split at h
 ·omega
 ·split at h
  ·omega
  ·split at h
   ·omega
   ·split at h
    ·omega
    ·exact⟨by omega,by omega,by omega,by omega,by omega,by omega,h⟩
theorem relsErr_zero{rules:List Rule} :∀ {l:List Rls} {i:Int},relsErr rules i l=0↔ ∀(j:Nat)(r:Rls),l[j]?=some r->brokenErr r.lock rules=0/\broken r.lock rules<0/\r.id=i+j+1
 | [],i=>by simp[relsErr]
 |x::q,i=>by
  unfold relsErr
  constructor
  ·intro h
   split at h
   ·omega
   ·split at h
    ·omega
    ·split at h
     ·omega
     ·intro j r hj
      cases j with
      |zero=>simp at hj;subst hj;exact⟨by omega,by omega,by omega⟩
      |succ j=>
       have:=relsErr_zero.1 h j r (by simpa using hj)
       exact⟨this.1,this.2.1,by rw[this.2.2];push_cast;omega⟩
  ·intro h
   have h0:=h 0 x rfl
   rw[if_neg (by omega),if_neg (by omega),if_neg (by omega)]
   exact relsErr_zero.2 fun j r hj=>by
    have:=h (j+1) r (by simpa using hj)
    exact⟨this.1,this.2.1,by rw[this.2.2];push_cast;omega⟩
theorem knErr_zero{goal nx:Int}{back:Bool} :∀ {l:List Kn},knErr goal nx back l=0↔ ∀a∈l,¬badKn nx a/\¬oddKn goal back a
 | []=>by simp[knErr]
 |x::q=>by
  unfold knErr
  constructor
  ·intro h
   split at h
   ·omega
   ·split at h
    ·omega
    ·intro a ha
     rcases List.mem_cons.1 ha with rfl|ha
     ·exact⟨by assumption,by assumption⟩
     ·exact knErr_zero.1 h a ha
  ·intro h
   have h0:=h x List.mem_cons_self
   rw[if_neg h0.1,if_neg h0.2]
   exact knErr_zero.2 fun a ha=>h a (List.mem_cons_of_mem _ ha)
theorem ldrErr_zero{c:Conf}{l:Ldr} :ldrErr c l=0↔cfgErr c=0/\1<=l.rels.length/\l.rels.length<=6/\relsErr c.rules 0 l.rels=0/\¬ldrRange l/\¬ldrForm c l/\knErr l.goal l.nx l.back l.ags=0:=by
 unfold ldrErr
 constructor
 ·intro h
  split at h
  ·omega
  ·split at h
   ·omega
   ·split at h
    ·omega
    ·split at h
     ·omega
     ·split at h
      ·omega
      ·exact⟨by omega,by omega,by omega,by omega,by assumption,by assumption,h⟩
 ·rintro⟨h1,h2,h3,h4,h5,h6,h7⟩
  rw[if_neg (by omega),if_neg (by omega),if_neg (by omega),if_neg h5,if_neg h6,h7]
theorem rel_lock{rules:List Rule}{l:List Rls}{i:Int}(h:relsErr rules i l=0):∀r∈l,Lk r.lock/\r.lock.length<=12:=fun r hr=>by
 obtain⟨j,hj⟩:=List.getElem?_of_mem hr
 exact(brokenErr_zero.1 (relsErr_zero.1 h j r hj).1).1
def Rg(n:Int):Prop:= -9223372036854775808<=n/\n<=9223372036854775807
def RRl:Rep Rls:=fun H r x=>∃a n c,r=[i64 x.id,.slice a n c]/\Pins H a n x.lock/\Rg x.id
theorem RRl.mono:RRl.Mono:=fun _ _ _ _ e ⟨a,n,c,h,hp,hg⟩=>⟨a,n,c,h,hp.ext' e,hg⟩
theorem RRl.len{H:Heap}{r:List Value}{m:Rls}(h:RRl H r m):r.length=2:=by obtain⟨a,n,c,rfl,_⟩:=h;rfl
theorem RRl.one{r:List Value}{m:Rls}{H:Heap}(h:RRl H r m):allOne r=true:=by obtain⟨a,n,c,rfl,_⟩:=h;rfl
abbrev Rels(H:Heap)(a:O)(n:Nat)(l:List Rls):Prop:=Sl RRl 2 H a n l
theorem Rels.ext'{H H':Heap}{a:O}{n:Nat}{l:List Rls}(h:Rels H a n l)(e:Ext H H'):Rels H' a n l:=Sl.ext RRl.mono h e
def knCells(a:Kn):List Value:=[i64 a.st,i64 a.try_,.bool a.back]
theorem knCells_len(a:Kn):(knCells a).length=3:=rfl
theorem knCells_one(a:Kn):allOne (knCells a)=true:=rfl
abbrev Kns(H:Heap)(a:O)(n:Nat)(l:List Kn):Prop:=Sl (REnc knCells) 3 H a n l
theorem Kns.ext'{H H':Heap}{a:O}{n:Nat}{l:List Kn}(h:Kns H a n l)(e:Ext H H'):Kns H' a n l:=Sl.ext REnc.mono h e
theorem Sl.rl{H H':Heap}{a:O}{n:Nat}{xs:List Rls}(h:Rels H a n xs)(e:Ext H H'){k:Int}(h0:0<=k)(h1:k<n){F:Int->O->Nat->Nat->Prop}
  (hF:∀m a n c,xs[k.toNat]?=some m->Pins H a n m.lock->F m.id a n c):
  ∃(b o:Nat),a=some ⟨b,o,none⟩/\0<=k/\k<n/\∃(z:Int)(a':O)(n' c':Nat),(H'.cell b (o+k.toNat*2)=some (.int .i64 z)/\H'.cell b (o+k.toNat*2+1)=some (.slice a' n' c')/\True)/\F z a' n' c':=by
 obtain⟨b,o,r,x,ha,hx,⟨a',n',c',rfl,hp,_⟩,hc⟩:=h.get h0 h1
 exact⟨b,o,ha,h0,h1,_,_,_,_,⟨Heap.cell_next e (hc 0 _ rfl),Heap.cell_next e (hc 1 _ rfl),trivial⟩,hF x a' n' c' hx hp⟩
theorem Sl.kn{H H':Heap}{a:O}{n:Nat}{xs:List Kn}(h:Kns H a n xs)(e:Ext H H'){k:Int}(h0:0<=k)(h1:k<n){F:Int->Int->Bool->Prop}(hF:∀m,xs[k.toNat]?=some m->F m.st m.try_ m.back):
  ∃(b o:Nat),a=some ⟨b,o,none⟩/\0<=k/\k<n/\∃(x y:Int)(q:Bool),(H'.cell b (o+k.toNat*3)=some (.int .i64 x)/\H'.cell b (o+k.toNat*3+1)=some (.int .i64 y)/\H'.cell b (o+k.toNat*3+2)=some (.bool q)/\True)/\F x y q:=by
 obtain⟨b,o,r,x,ha,hx,rfl,hc⟩:=h.get h0 h1
 exact⟨b,o,ha,h0,h1,_,_,_,⟨Heap.cell_next e (hc 0 _ rfl),Heap.cell_next e (hc 1 _ rfl),Heap.cell_next e (hc 2 _ rfl),trivial⟩,hF x hx⟩
abbrev cfgArg(c:Conf)(fa:O)(fl fc:Nat)(ra:O)(rl rc:Nat)(wa:O)(wl wc:Nat):Value:= .agg #[.int .i64 c.first.id,.slice fa fl fc,.slice ra rl rc,.slice wa wl wc,.int .i64 c.bud]
abbrev ldrArg(l:Ldr)(la:O)(ll lc:Nat)(ka:O)(kl kc:Nat):Value:= .agg #[.slice la ll lc,.int .i64 l.now,.int .i64 l.goal,.bool l.back,.slice ka kl kc,.int .i64 l.nx]
structure CfgAt(H:Heap)(c:Conf)(fa:O)(fl:Nat)(ra:O)(rl:Nat)(wa:O)(wl:Nat):Prop where
 pins:Pins H fa fl c.first.lock
 rules:Rules H ra rl c.rules
 waves:Waves H wa wl c.waves
theorem CfgAt.ext{H H':Heap}{c:Conf}{fa ra wa:O}{fl rl wl:Nat}(h:CfgAt H c fa fl ra rl wa wl)(e:Ext H H'):CfgAt H' c fa fl ra rl wa wl:=⟨h.pins.ext' e,Sl.ext REnc.mono h.rules e,h.waves.ext' e⟩
structure LdrAt(H:Heap)(l:Ldr)(la:O)(ll:Nat)(ka:O)(kl:Nat):Prop where
 rels:Rels H la ll l.rels
 ags:Kns H ka kl l.ags
theorem LdrAt.ext{H H':Heap}{l:Ldr}{la ka:O}{ll kl:Nat}(h:LdrAt H l la ll ka kl)(e:Ext H H'):LdrAt H' l la ll ka kl:=⟨h.rels.ext' e,h.ags.ext' e⟩
theorem Spec.ldr{P:Program}{f:FuncId}{args:List Value}{H:Heap}{x:Ldr}{e:Int}(h:Spec P f args H fun v H'=>∃la ll lc ka kl kc,v= .tuple #[ldrArg x la ll lc ka kl kc,i64 e]/\LdrAt H' x la ll ka kl){base:Nat}
  {G:O->Nat->Nat->Int->Int->Bool->O->Nat->Nat->Int->Int->Heap->Prop} (hG:∀la ll lc ka kl kc H',Ext H H'->Next base H H'->LdrAt H' x la ll ka kl->G la ll lc x.now x.goal x.back ka kl kc x.nx e H'):
  Spec P f args H fun v H'=>∃(la:O)(ll lc:Nat)(n2 n3:Int)(b:Bool)(ka:O)(kl kc:Nat)(n6 n7:Int),v= .tuple #[.agg #[.slice la ll lc,.int .i64 n2,.int .i64 n3,.bool b,.slice ka kl kc,.int .i64 n6],.int .i64 n7]/\(Next base H H'->G la ll lc n2 n3 b ka kl kc n6 n7 H'):=
 h.mono fun v H' ex hv=>by
  obtain⟨la,ll,lc,ka,kl,kc,h1,h2⟩:=hv
  exact⟨la,ll,lc,_,_,_,ka,kl,kc,_,e,h1,fun hN=>hG la ll lc ka kl kc H' ex hN h2⟩
open Go Go.Proofs
open Go Go.Proofs
theorem cNoteRelease{H:Heap}{a:O}{l c:Nat}{xs:List Pin}(hx:Pins H a l xs)(id:Int):Spec Tryz.prog 167 [.agg #[.int .i64 id,.slice a l c]] H fun v _=>v=i64 (relErr ⟨id,xs⟩):=by
 refine TryzvcJ Tryz.func167 (by kernel_rfl) (by kernel_rfl) _ rfl (fun base K=>vc68 id a l c base H K) fun base hb=> ?_
 intro b
 refine⟨id<1∨6<id,⟨fun _=>⟨rfl,fun _ _ h=>h,by omega⟩,fun _=>⟨rfl,fun _ _ h=>h,by omega⟩⟩,fun h=>by rw[relErr,if_pos h],fun h=> ?_⟩
 refine(cLockCheck hx).int1 fun H1 e1 _=> ?_
 rw[relErr,if_neg h]
theorem rel_eq{id id':Int}{xs ys:List Pin} :((⟨id,xs⟩:Rls)=⟨id',ys⟩)↔id=id'/\xs=ys:=by simp
theorem cAlike{H:Heap}{a a':O}{l c l' c':Nat}{xs ys:List Pin}(hx:Pins H a l xs)(hy:Pins H a' l' ys)(id id':Int):
  Spec Tryz.prog 56 [.agg #[.int .i64 id,.slice a l c],.agg #[.int .i64 id',.slice a' l' c']] H fun v _=>v= .bool (decide ((⟨id,xs⟩:Rls)=⟨id',ys⟩)):=by
 refine TryzvcJ Tryz.func56 (by kernel_rfl) (by kernel_rfl) _ rfl (fun base K=>vc86 id id' a a' l c l' c' base H K) fun base hb=> ?_
 have hxl:=hx.len
 have hyl:=hy.len
 have hle:=hx.le
 intro b b1
 refine⟨id≠id'∨l≠l',⟨fun _=>⟨rfl,fun _ _ h=>h,by omega⟩,fun _=>⟨rfl,fun _ _ h=>h,by omega⟩⟩,fun h=> ?_,fun h=> ?_⟩
 ·rw[decide_eq_false]
  rw[rel_eq]
  rintro⟨rfl,rfl⟩
  omega
 have hid:id=id':=by omega
 have hll:l=l':=by omega
 have hW:decide ((⟨id,xs⟩:Rls)=⟨id',ys⟩)=decide (xs=ys):=by rw[decide_eq_decide,rel_eq];simp[hid]
 rw[hW]
 refine⟨fun vs _=>∃(b:Bool)(k:Nat),vs=[.bool b,i64 k]/\k<=l/\(xs.drop k=ys.drop k↔xs=ys),upTo l 1,⟨false,0,rfl,by omega,by simp⟩,fun b n H' hN hI=> ?_⟩
 obtain⟨b',k,hvs,hk,hI⟩:=hI
 obtain⟨rfl,rfl⟩:b=b'/\n=(k:Int):=by simpa using hvs
 refine⟨fun hlt=>hx.pin hN.ext (by omega) hlt fun p hp=>fun b3=>hy.pin hN.ext (by omega) (by omega) fun q hq=>⟨_,neq48 _ _ _ _,fun h=> ?_,fun h=> ?_⟩,fun hge=> ?_⟩
 ·rw[Int.toNat_natCast] at hp hq
  rw[drop_at hp,drop_at hq] at hI
  rw[decide_eq_false]
  intro e
  obtain⟨rfl,_⟩:=List.cons.inj (hI.2 e)
  simp at h
 ·rw[Int.toNat_natCast] at hp hq
  rw[drop_at hp,drop_at hq] at hI
  have hpq:p=q:=by cases p;cases q;simp at h;simp[h]
  rintro r rfl
  rw[wrap_in (by omega) (by omega)]
  exact⟨rfl,⟨b,k+1,rfl,by omega,by rw[←hI];simp[hpq]⟩,by simp[upTo];omega⟩
 ·rw[decide_eq_true]
  exact hI.1 (by rw[drop_all hxl (by omega),drop_all hyl (by omega)])
theorem len_zero{xs:List Pin}{n:Nat}(h:xs.length=n):(xs=[]↔n=0):=by rw[←h];exact List.length_eq_zero_iff.symm
theorem cWayCheck{H:Heap}{a:O}{l c:Nat}{ms:List Mail}(hx:Mails H a l ms):Spec Tryz.prog 102 [.slice a l c] H fun v _=>v=i64 (mailsCheck ms):=by
 refine TryzvcJ Tryz.func102 (by kernel_rfl) (by kernel_rfl) _ rfl (fun base K=>vc50 a l c base H K) fun base hb=> ?_
 have hl:=hx.len
 refine⟨fun h=>by rw[mailsCheck,if_pos (by omega)],fun h=> ?_⟩
 have hW:mailsCheck ms=mailsFrom ms:=by rw[mailsCheck,if_neg (by omega)]
 rw[hW]
 refine⟨fun vs _=>∃(d:Int)(i:Nat),vs=[i64 d,i64 i]/\i<=l/\mailsFrom (ms.drop i)=mailsFrom ms,upTo l 1,⟨0,0,rfl,by omega,rfl⟩,fun d n H' hN hI=> ?_⟩
 obtain⟨d',i,hvs,hi,hI⟩:=hI
 obtain⟨rfl,rfl⟩:d=d'/\n=(i:Int):=by simpa using hvs
 refine⟨fun hlt=>hx.mail hN.ext (by omega) hlt fun m a' n' c' hm hp=> ?_,fun hge=> ?_⟩
 ·rw[Int.toNat_natCast] at hm
  rw[drop_at hm,mailsFrom] at hI
  have hpl:=hp.len
  have next:mailsFrom (ms.drop (i+1))=mailsFrom ms->∀(Hn:Heap)(r:Int),r=IntKind.wrap .i64 ((i:Int)+1)->(∃(d_1:Int)(i_1:Nat),[Value.int .i64 d,Value.int .i64 r]=[i64 d_1,i64 i_1]/\i_1<=l/\mailsFrom (ms.drop i_1)=mailsFrom ms)/\upTo l 1 [Value.int .i64 d,Value.int .i64 r]<upTo l 1 [Value.int .i64 d,Value.int .i64 (i:Int)]:=by
   rintro hn Hn r rfl
   rw[wrap_small (by omega) (by omega)]
   exact⟨⟨_,i+1,rfl,by omega,hn⟩,by simp[upTo];omega⟩
  intro b
  refine⟨m.agent<0∨6<=m.agent∨m.try_<1∨200<m.try_,?_,fun h1=> ?_,fun h1=> ?_⟩
  ·repeat' (first|exact⟨rfl,fun _ _ h=>h,by omega⟩|intro _|refine⟨?_,?_⟩)
  ·rw[if_pos (show badWho m from h1)] at hI;rw[←hI]
  rw[if_neg (show¬badWho m from h1)] at hI
  refine⟨badForm m,?_,fun h2=> ?_,fun h2=> ?_⟩
  ·have hz:=len_zero hpl
   refine⟨fun hr=>⟨fun g=>⟨rfl,fun _ _ h=>h,.inl ⟨hr,fun h=>g h.1⟩⟩,fun g=>⟨fun g2=>⟨rfl,fun _ _ h=>h,.inl ⟨hr,fun h=>by have:=hz.1 h.2;omega⟩⟩,fun g2=>⟨fun g3=>(by rw[hr] at g3;cases g3),fun _=>⟨rfl,fun _ _ h=>h,?_⟩⟩⟩⟩,
    fun hr=>⟨fun _=>⟨rfl,fun _ _ h=>h,?_⟩,fun g=>absurd hr g⟩⟩
   ·rintro(⟨_,h⟩|⟨h,_⟩)
    ·exact h ⟨Decidable.not_not.1 g,hz.2 (by omega)⟩
    ·rw[hr] at h;cases h
   ·constructor
    ·rintro(⟨h,_⟩|⟨_,h⟩)
     ·rw[hr] at h;cases h
     ·exact h
    ·exact fun h=> .inr ⟨hr,h⟩
  ·rw[if_pos h2] at hI;rw[←hI]
  rw[if_neg h2] at hI
  refine⟨fun h3=> ?_,fun h3=>(cNoteRelease (hp.ext' hN.ext) _).int1 fun H2 e2 _=>⟨fun h4=> ?_,fun h4=> ?_⟩⟩
  ·rw[if_pos h3] at hI
   exact next hI H'
  ·rw[if_neg (by simp[h3]),if_pos h4] at hI;rw[←hI]
  ·rw[if_neg (by simp[h3]),if_neg h4] at hI
   exact next hI H2
 ·rw[←hI,drop_all hx.len (by omega),mailsFrom]
open Go Go.Proofs
theorem cCloneMails{H:Heap}{a:O}{l c:Nat}{ms:List Mail}(hx:Mails H a l ms)(hl:l<=100000):Spec Tryz.prog 42 [.slice a l c] H fun v H'=>∃a n c rs,v= .slice a n c/\Fresh H H' 74 6 a n c rs.flatten/\(∀r∈rs,r.length=6)/\AllR RMail H rs ms:=by
 refine TryzvcJ Tryz.func42 (by kernel_rfl) (by kernel_rfl) _ rfl (fun base K=>vc52 a l c base H K) fun base hb=>⟨_,eqNil Tryz.underlying39,fun h=> ?_,fun h=> ?_⟩
 ·obtain rfl:a=none:=by cases a<;>simp at h⊢
  obtain⟨_,rfl⟩:=hx.addr_nil
  exact⟨none,0,0,[],rfl,Fresh.zero,by simp,trivial⟩
 ·intro g H1 hN1 _ hg
  obtain⟨rs,h1,h2,h3,h4⟩:=hx.rows RMail.len
  exact⟨[],_,Row.zero,h3,allOne_rows RMail.one h2,h4.imp id (fun⟨b,o,hb,hc⟩=>⟨b,o,hb,cellsAt_ext hN1.ext hc⟩),by omega,by omega,fun a3 c3 H3 hG hR=>⟨_,_,_,rs,rfl,hR.fresh hb,h1,h2⟩⟩
theorem Row.at{base:Nat}{H:Heap}{e:TypeId}{sz n c i:Nat}{a:O}{L:List (List Value)}{r:List Value}(h:Row base H e sz a n c L.flatten)(hw:∀r∈L,r.length=sz)(hn:L.length=n)(hr:L[i]?=some r):
  ∃b:Nat,a=some ⟨b,0,none⟩/\∀(j:Nat)(v:Value),r[j]?=some v->H.cell b (0+i*sz+j)=some v:=by
 have hi:i<n:=by have:=(List.getElem?_eq_some_iff.1 hr).1;omega
 obtain⟨b,o,r',ha,hr',hc⟩:=(has_of_row h rfl hw hn).get hi
 rw[hr] at hr'
 obtain rfl:=Option.some.inj hr'
 obtain⟨b',_,hb',_⟩:=h.block (by omega)
 rw[ha] at hb'
 simp at hb'
 obtain⟨rfl,rfl⟩:=hb'
 exact⟨b,ha,hc⟩
theorem cCopy{H:Heap}{a:O}{l c:Nat}{ms:List Mail}(hx:Mails H a l ms)(hl:l<=100000)(hk:∀m∈ms,m.rel.lock.length<=100000):Spec Tryz.prog 172 [.slice a l c] H fun v H'=>∃a n c G rs,v= .slice a n c/\NewSl RMail 6 74 H G H' a n c rs ms:=by
 refine TryzvcJ Tryz.func172 (by kernel_rfl) (by kernel_rfl) _ rfl (fun base K=>vc115 a l c base H K) fun base hb=> ?_
 have hml:=hx.len
 refine(cCloneMails hx hl).mono fun v H1 e1 hv=> ?_
 obtain⟨a1,n1,c1,rs,rfl,hF,hw,hA⟩:=hv
 refine⟨a1,n1,c1,rfl,fun hN1=> ?_⟩
 have hR:=hF.row hN1
 have hrl:rs.length=n1:=by
  have:=hR.1
  rw[flat_wid hw] at this
  omega
 have hrm:=hA.len
 have hclear:c1≠0->∀g,a1=some ⟨g,0,none⟩->H g=none:=fun hc g hg=>by
  rcases hF.2.2.2 with⟨_,h0⟩|⟨g',k,h1,h2,_⟩
  ·exact absurd h0 hc
  ·rw[hg] at h1;simp at h1;subst h1;exact h2
 refine⟨fun vs Hc=>∃(i:Nat)(r1:List (List Value))(G:Heap),vs=[i64 i]/\i<=n1/\r1.length=i/\(∀r∈r1,r.length=6)/\Row base Hc 74 6 a1 n1 c1 (r1++rs.drop i).flatten/\AllR RMail G r1 (ms.take i)/\Away H G/\Ext G Hc/\(c1≠0->∀g,a1=some ⟨g,0,none⟩->G g=none),
  upTo n1 0,⟨0,[],fun _=>none,rfl,by omega,rfl,by simp,hR,by simp[AllR],fun _ _ h=>(by cases h),fun _ _ h=>(by cases h),fun _ _ _=>rfl⟩,fun m H2 hN2 hI=> ?_⟩
 obtain⟨i,r1,G,hvs,hi,hr1,hw1,hR2,hA2,haw,hsub,hcl⟩:=hI
 obtain rfl:m=(i:Int):=by simpa using hvs
 refine⟨fun hlt=> ?_,fun hge=> ?_⟩
 ·have hri:rs[i]?=some (rs[i]'(by omega)):=List.getElem?_eq_getElem (by omega)
  have hmi:ms[i]?=some (ms[i]'(by omega)):=List.getElem?_eq_getElem (by omega)
  generalize hrr:rs[i]'(by omega)=r at hri
  generalize hmm:ms[i]'(by omega)=m at hmi
  obtain⟨la,ln,lc,rfl,hp⟩:=hA.get hri hmi
  have hpl:=hp.len
  have hkm:=hk m (List.mem_of_getElem? hmi)
  have hwL:∀r∈r1++rs.drop i,r.length=6:=fun r hr=>by
   rcases List.mem_append.1 hr with hr|hr
   ·exact hw1 r hr
   ·exact hw r (List.mem_of_mem_drop hr)
  have hat:(r1++rs.drop i)[i]?=some (mailVal m la ln lc):=by
   rw[List.getElem?_append_right (by omega),hr1,Nat.sub_self,List.getElem?_drop,Nat.add_zero];exact hri
  obtain⟨b,hab,hcell⟩:=hR2.at hwL (by simp;omega) hat
  have hd:=drop_at hri
  refine⟨b,0,hab,by omega,hlt,_,_,_,_,_,_,_,_,⟨hcell 0 _ rfl,hcell 1 _ rfl,hcell 2 _ rfl,hcell 3 _ rfl,hcell 4 _ rfl,hcell 5 _ rfl,trivial⟩,fun b2=> ?_⟩
  refine(cCloneJ (hp.ext' hN2.ext) (by omega)).mono fun v H3 e3 hv=> ?_
  obtain⟨a6,n6,c6,rfl,hF6⟩:=hv
  refine⟨a6,n6,c6,rfl,fun hN3=> ?_⟩
  obtain⟨b3,k3,hb3,hbase,hc1,hH2,hf3,hs3,_⟩:=hR2.block (by omega)
  obtain rfl:b=b3:=by rw[hab] at hb3;simpa using hb3
  have hnc:=hR2.2.1
  refine⟨b,0,hab,by omega,hlt,k3,e3 _ _ hH2,hf3,hbase,by rw[hs3,Int.toNat_natCast];omega,fun H4 hu=> ?_⟩
  rintro r rfl
  rw[wrap_in (by omega) (by omega)]
  rw[Int.toNat_natCast] at hu
  have hR4:=(hR2.ext e3).upd hab hc1 (e3 _ _ hH2) (o:=0+i*6+4+1) (vs:=[.slice a6 n6 c6]) (by rw[hR2.1];show 0+i*6+4+1+1<=n1*6;omega) hu
  rw[hd,show 0+i*6+4+1=r1.length*6+5 from by omega,rows_set hw1 rfl (by simp)] at hR4
  have hnew:RMail (G.plus (newOf H2 H3)) (setRange (mailVal m la ln lc) 5 [.slice a6 n6 c6]) m:=⟨a6,n6,c6,rfl,Sl.ext REnc.mono (hF6.sl_new pinCells_len (by omega)) (new_in_grow hsub)⟩
  have hGb:(G.plus (newOf H2 H3)) b=none:=by
   unfold Heap.plus newOf
   rw[hcl hc1 b hab,hH2]
  refine⟨⟨i+1,r1++[setRange (mailVal m la ln lc) 5 [.slice a6 n6 c6]],G.plus (newOf H2 H3),rfl,by omega,by simp[hr1],fun r hr=> ?_,by simpa using hR4,?_,?_,fun x k hx=> ?_,fun _ g hg=> ?_⟩,by simp[upTo];omega⟩
  ·rcases List.mem_append.1 hr with hr|hr
   ·exact hw1 r hr
   ·simp at hr;subst hr;rfl
  ·rw[take_at hmi]
   exact AllR.append (AllR.one hnew) (hA2.mono RMail.mono plus_left)
  ·exact plus_away haw (newOf_away.sub hN2.ext)
  ·have hne:x≠b:=fun e=>by rw[e,hGb] at hx;cases hx
   rw[hu.there x hne]
   exact plus_sub (hsub.trans e3) newOf_ext x k hx
  ·rw[hab] at hg;simp at hg;subst hg;exact hGb
 ·obtain rfl:i=n1:=by omega
  rw[List.drop_eq_nil_of_le (by omega),List.append_nil] at hR2
  rw[List.take_of_length_le (by omega)] at hA2
  exact⟨_,_,_,G,r1,rfl,OwnSl.new ⟨hR2,hw1,hA2,hsub,hcl⟩ hb haw⟩
theorem cSend{H:Heap}{a a':O}{l c l' c':Nat}{ms:List Mail}(hx:Mails H a l ms)(m:Mail)(hp:Pins H a' l' m.rel.lock):
  Spec Tryz.prog 245 [.slice a l c,.agg #[.int .i64 m.agent,.int .i64 m.try_,.bool m.rep,.bool m.good,.int .i64 m.rel.id,.slice a' l' c']] H fun v H'=>∃a n c,v= .tuple #[.slice a n c,i64 (sendErr ms m)]/\n<=c/\Mails H' a n (if sendErr ms m=0 then sent ms m else []):=by
 refine TryzvcJ Tryz.func245 (by kernel_rfl) (by kernel_rfl) _ rfl (fun base K=>vc45 a a' l c l' c' m.agent m.try_ m.rel.id m.rep m.good base H K) fun base hb=> ?_
 intro b g H1 hN1 _ hg
 have hml:=hx.len
 have bx:Mails H1 (some ⟨g,0,none⟩) 1 [m]:=mail_box (m:=m) hg (hp.ext' hN1.ext)
 refine⟨fun vs Hc=>∃(a4:O)(n4 c4:Nat)(d:Int)(k:Nat),vs=[.slice a4 n4 c4,i64 d,i64 k]/\k<=2/\(0<k->mailsCheck ms=0)/\(1<k->mailsCheck [m]=0)/\Ext H1 Hc,upTo 2 2,⟨none,0,0,0,0,rfl,by omega,by omega,by omega,Ext.refl _⟩,fun a4 n4 c4 d n H' hN hI=> ?_⟩
 obtain⟨a4',n4',c4',d',k,hvs,hk,hk0,hk1,he⟩:=hI
 obtain⟨⟨rfl,rfl,rfl⟩,rfl,rfl⟩:(a4=a4'/\n4=n4'/\c4=c4')/\d=d'/\n=(k:Int):=by simpa using hvs
 refine⟨fun hlt=>⟨by omega,hlt,?_⟩,fun hge=> ?_⟩
 ·by_cases k0:k=0
  ·subst k0
   refine⟨a,l,c,rfl,(cWayCheck (hx.ext' hN.ext)).int1 fun H2 e2 _=>⟨fun h=> ?_,fun h=> ?_⟩⟩
   ·have e:sendErr ms m=mailsCheck ms:=by rw[sendErr,if_neg h]
    rw[e,if_neg h]
    exact⟨none,0,0,rfl,by omega,Sl.nil⟩
   ·rintro r rfl
    rw[wrap_small (by omega) (by omega)]
    exact⟨rfl,⟨_,_,_,_,1,rfl,by omega,fun _=>Decidable.not_not.1 h,by omega,he.trans e2⟩,by simp[upTo]⟩
  ·obtain rfl:k=1:=by omega
   refine⟨some ⟨g,0,none⟩,1,1,rfl,(cWayCheck (bx.ext' he)).int1 fun H2 e2 _=>⟨fun h=> ?_,fun h=> ?_⟩⟩
   ·have e:sendErr ms m=mailsCheck [m]:=by rw[sendErr,if_pos (hk0 (by omega))]
    rw[e,if_neg h]
    exact⟨none,0,0,rfl,by omega,Sl.nil⟩
   ·rintro r rfl
    rw[wrap_small (by omega) (by omega)]
    exact⟨rfl,⟨_,_,_,_,2,rfl,by omega,fun _=>hk0 (by omega),fun _=>Decidable.not_not.1 h,he.trans e2⟩,by simp[upTo]⟩
 obtain rfl:k=2:=by omega
 have hE:sendErr ms m=0:=by rw[sendErr,if_pos (hk0 (by omega))];exact hk1 (by omega)
 obtain⟨h40,hlk⟩:=mailsCheck_zero (hk0 (by omega))
 obtain⟨_,hlk1⟩:=mailsCheck_zero (hk1 (by omega))
 rw[hE,if_pos rfl]
 refine(cCopy (hx.ext' hN.ext) (by omega) (fun m hm=>by have:=hlk m hm;omega)).mono fun v H3 e3 hv=> ?_
 obtain⟨a5,n5,c5,G,rs,rfl,hNew⟩:=hv
 refine⟨a5,n5,c5,rfl,fun hN3=> ?_⟩
 have hO:=hNew.own hN3
 obtain⟨_,hn5⟩:=hO.rlen (by omega)
 refine⟨fun hlt=> ?_,fun hge=> ?_⟩
 ·intro g2 H4 hN4 hg2n hg2
  have bx2:Mails H4 (some ⟨g2,0,none⟩) 1 [m]:=mail_box (m:=m) hg2 (((hp.ext' hN.ext).ext' e3).ext' hN4.ext)
  refine(cCopy bx2 (by omega) (fun x hx=>by have:=hlk1 x hx;omega)).mono fun v H5 e5 hv=> ?_
  obtain⟨a6,n6,c6,G',rs',rfl,hNew'⟩:=hv
  refine⟨a6,n6,c6,rfl,fun hN5=> ?_⟩
  have hO':=hNew'.own hN5
  obtain⟨hr6,hn6⟩:=hO'.rlen (by omega)
  have e45:Ext H3 H5:=Ext.trans hN4.ext e5
  have hOg:=hO.grow RMail.mono e45
  obtain⟨rs6,q1,q2,q3,q4⟩:=(hO'.sl RMail.mono (by omega)).rows RMail.len
  have hcells:n6=0∨ ∃(b:Nat)(o:Nat),a6=some ⟨b,o,none⟩/\cellsAt H5 b o 0 rs'.flatten:=by
   by_cases h0:n6=0
   ·exact .inl h0
   ·obtain⟨b6,k6,hb6,_⟩:=hO'.row.block (by omega)
    have:=hO'.row
    rw[hb6] at this
    exact .inr ⟨b6,0,hb6,by simpa using this.cellsAt (k:=0) (by omega) (by omega)⟩
  simp at hn6
  refine⟨rs.flatten,rs'.flatten,hOg.row,by rw[flat_wid hNew'.wid,hr6],allOne_rows RMail.one hNew'.all,hcells,by omega,by omega,fun a7 c7 H7 hG hR7=> ?_⟩
  have hall:AllR RMail (G.plus (newOf H3 H5)) rs' [m]:=hNew'.all_new RMail.mono|>.mono RMail.mono ((newOf_mono hN4.ext).trans (new_in_grow hO.sub))
  have hOf:=hOg.grew hG hR7 hNew'.wid hall
  refine⟨_,_,_,rfl,hOf.row.2.1,?_⟩
  rw[sent,if_pos (by omega)]
  exact hOf.sl RMail.mono (by omega)
 ·refine⟨_,_,_,rfl,hO.row.2.1,?_⟩
  rw[sent,if_neg (by omega)]
  exact hO.sl RMail.mono (by omega)
theorem cTakeR{H:Heap}{a:O}{l c:Nat}{ms:List Mail}(hx:Mails H a l ms)(k:Int)(tw:Bool):
  Spec Tryz.prog 175 [.slice a l c,.int .i64 k,.bool tw] H fun v H'=>∃a n c la ln lc,v= .tuple #[.slice a n c,.agg (mailVal (if takeErr ms k=0 then took ms k else noMail) la ln lc).toArray,i64 (takeErr ms k)]/\Mails H' a n (if takeErr ms k=0 then left ms k tw else [])/\Pins H' la ln (if takeErr ms k=0 then took ms k else noMail).rel.lock/\n<=c:=by
 refine TryzvcJ Tryz.func175 (by kernel_rfl) (by kernel_rfl) _ rfl (fun base K=>vc48 a l c k tw base H K) fun base hb=> ?_
 intro b
 have hml:=hx.len
 refine(cWayCheck hx).int1 fun H1 e1 hN1=>⟨fun h=> ?_,fun h=> ?_⟩
 ·have e:takeErr ms k=mailsCheck ms:=by rw[takeErr,if_neg h]
  rw[e,if_neg h,if_neg h]
  exact⟨none,0,0,none,0,0,rfl,Sl.nil,Sl.nil,Nat.le_refl 0⟩
 have h:=Decidable.not_not.1 h
 obtain⟨h40,hlk⟩:=mailsCheck_zero h
 refine⟨k<0∨(l:Int)<=k,⟨fun _=>⟨rfl,fun _ _ h=>h,by omega⟩,fun _=>⟨rfl,fun _ _ h=>h,by omega⟩⟩,fun hk=> ?_,fun hk=> ?_⟩
 ·have e:takeErr ms k=5:=by rw[takeErr,if_pos h,if_pos (by omega)]
  rw[e,if_neg (by omega),if_neg (by omega)]
  exact⟨none,0,0,none,0,0,rfl,Sl.nil,Sl.nil,Nat.le_refl 0⟩
 have hE:takeErr ms k=0:=by rw[takeErr,if_pos h,if_neg (by omega)]
 rw[hE,if_pos rfl,if_pos rfl]
 refine(cCopy (hx.ext' e1) (by omega) (fun m hm=>by have:=hlk m hm;omega)).mono fun v H3 e3 hv=> ?_
 obtain⟨a5,n5,c5,G,rs,rfl,hNew⟩:=hv
 refine⟨a5,n5,c5,rfl,fun hN3=> ?_⟩
 have hO:=hNew.own hN3
 obtain⟨hr5,hn5⟩:=hO.rlen (by omega)
 have hnc:=hO.row.2.1
 have hmk:ms[k.toNat]?=some (took ms k):=by
  rw[took,List.getD_eq_getElem?_getD,List.getElem?_eq_getElem (by omega)];rfl
 rintro r rfl
 rw[wrap_small (by omega) (by omega)]
 refine⟨by omega,by omega,by omega,fun a6 ha6=> ?_⟩
 have hS3:=hO.sl RMail.mono (by omega)
 have hone:Mails H3 a6 1 [took ms k]:=by
  have:=hS3.sub (l:=k.toNat) (m:=1) (a':=a6) (by omega) (fun _=>ha6 (by omega))
  have e:(ms.drop k.toNat).take 1=[took ms k]:=by rw[drop_at hmk];rfl
  rw[e] at this
  exact this
 rw[show Int.toNat (k+1)-Int.toNat k=1 from by omega]
 refine(cCopy hone (by omega) (fun m hm=>by simp at hm;subst hm;have:=hlk _ (List.mem_of_getElem? hmk);omega)).mono fun v H4 e4 hv=> ?_
 obtain⟨a7,n7,c7,G',rs',rfl,hNew'⟩:=hv
 refine⟨a7,n7,c7,rfl,fun hN4=> ?_⟩
 have hO':=hNew'.own hN4
 obtain⟨hr7,hn7⟩:=hO'.rlen (by omega)
 simp at hn7
 obtain⟨r',rfl⟩:∃r',rs'=[r']:=List.length_eq_one_iff.1 (by omega)
 obtain⟨⟨la,ln,lc,rfl,hp⟩,_⟩:=hO'.all
 obtain⟨b7,hb7,hcell⟩:=hO'.row.at hO'.wid hr7 (i:=0) rfl
 have hpA:=hp.ext' hO'.sub
 refine⟨b7,0,hb7,by decide,by omega,_,_,_,_,_,_,_,_,⟨hcell 0 _ rfl,hcell 1 _ rfl,hcell 2 _ rfl,hcell 3 _ rfl,hcell 4 _ rfl,hcell 5 _ rfl,trivial⟩,fun b2=> ?_⟩
 have hOg:=hO.grow RMail.mono e4
 refine⟨fun ht=> ?_,fun ht=> ?_⟩
 ·rintro r rfl
  refine⟨rs.flatten,k.toNat,k.toNat+1,by omega,by omega,by omega,by omega,by omega,hOg.row,allOne_rows RMail.one hNew.all,fun H5 hG hR5=> ?_⟩
  rw[flat_takeR k.toNat hNew.wid,flat_dropR (k.toNat+1) hNew.wid,←List.flatten_append] at hR5
  have hOf:=hOg.regrew hG hR5 (fun r hr=>by
   rcases List.mem_append.1 hr with hr|hr
   ·exact hNew.wid r (List.mem_of_mem_take hr)
   ·exact hNew.wid r (List.mem_of_mem_drop hr)) (AllR.append (hOg.all.drop (k.toNat+1)) (hOg.all.take k.toNat))
  refine⟨_,_,_,la,ln,lc,rfl,?_,hp.ext' fun x kx hx=> ?_,hOf.row.2.1⟩
  ·rw[left,if_neg (by simp[ht])]
   exact hOf.sl RMail.mono (by omega)
  ·refine hG.keep x kx (hO'.sub x kx hx) ?_
   by_cases hc:c5=0
   ·exact .inl hc
   ·refine .inr fun ha=> ?_
    obtain⟨g,kg,hg1,hg2⟩:=hO.block hc
    rw[ha] at hg1
    obtain rfl:x=g:=by simpa using hg1
    have:=hNew'.away x kx hx
    rw[hg2] at this;cases this
 ·refine⟨_,_,_,la,ln,lc,rfl,?_,hpA,hOg.row.2.1⟩
  rw[left,if_pos (by simpa using ht)]
  exact hOg.sl RMail.mono (by omega)
open Go Go.Proofs
abbrev mailArg(m:Mail)(a:O)(n c:Nat):Value:= .agg #[.int .i64 m.agent,.int .i64 m.try_,.bool m.rep,.bool m.good,.int .i64 m.rel.id,.slice a n c]
def m1:Mail:=⟨1,2,true,true,⟨0,[]⟩⟩
def m2:Mail:=⟨2,3,false,false,⟨2,[⟨1,2⟩,⟨2,1⟩]⟩⟩
theorem cSecond{H:Heap} :Spec Tryz.prog 72 [] H fun v H'=>∃a n c,v= .agg #[i64 2,.slice a n c]/\Pins H' a n [⟨1,2⟩,⟨2,1⟩]:=by
 refine TryzvcJ Tryz.func72 (by kernel_rfl) (by kernel_rfl) _ rfl (fun base K=>vc116 base H K) fun base hb=> ?_
 intro b g H1 hN1 _ hg
 exact⟨_,_,_,rfl,sl_of_boxE pinCells_len (xs:=[⟨1,2⟩,⟨2,1⟩]) hg rfl (by decide)⟩
open Go Go.Proofs
theorem cIndexByte{H:Heap}(s:ByteArray)(c:Int):Spec Tryz.prog 266 [.string s,.int .u8 c] H fun v _=>v=i64 (Lib.indexByte s.data.toList c.toNat.toUInt8):=by
 refine TryzvcJ Tryz.func266 (by kernel_rfl) (by kernel_rfl) _ rfl (fun base K=>vc158 s c base H K) fun base hb=>⟨_,fun w _=> ?_,rfl⟩
 show(callFunc 286 #[.string s,.int .u8 c]).run Tryz.prog w=_
 rw[run_callFunc_extern Tryz.func286 (by kernel_rfl) (by kernel_rfl) (by kernel_rfl) (e:=Extern.BytealgIndexByte.indexByte) (by kernel_rfl),Lib.run_indexByteString]
 rfl
theorem eqStr{xo yo:Operand}{s t:ByteArray} :RunsTo Tryz.prog (binRun .eql 9 xo yo (.string s) (.string t)) (.bool (s.toList==t.toList)):=by
 intro w
 have hg:(eqGuard .eql 9 xo yo (.string s) (.string t)).run Tryz.prog w= .ok () w:=by simp[eqGuard]
 simp only[binRun,Sem.run_bind,hg,Result.andThen_ok]
 have:=run_equalIn_string (P:= Tryz.prog) w 9999 9 s t Tryz.underlying9
 simp[binOp,Op.equal,this,Op.stringOp]
theorem cStrIndex{H:Heap}(s:ByteArray)(c:UInt8):Spec Tryz.prog 247 [.string s,.string ⟨#[c]⟩] H fun v _=>v=i64 (Lib.indexByte s.data.toList c):=by
 refine TryzvcJ Tryz.func247 (by kernel_rfl) (by kernel_rfl) _ rfl (fun base K=>vc157 s c base H K) fun base hb=> ?_
 have h1:((ByteArray.mk #[c]).size:Int)=1:=rfl
 refine⟨((ByteArray.mk #[c]).toList==s.toList)=true,⟨fun h=>absurd h (by rw[h1];decide),fun _=>⟨_,eqStr,fun _ _ h=>h,Iff.rfl⟩⟩,fun h=> ?_,fun h=>⟨fun _=>⟨(c.toNat:Int),fun w=> ?_,(cIndexByte s (c.toNat:Int)).int1 fun H1 _ _=> ?_⟩,fun h'=>absurd h1 h'⟩⟩
 ·rw[ByteArray.toList_eq,ByteArray.toList_eq,beq_iff_eq] at h
  rw[←h]
  simp[Lib.indexByte]
 ·rw[run_index_string w 9 (ByteArray.mk #[c]) .i64 0 Tryz.underlying9,dif_pos ⟨by omega,by rw[h1];omega⟩]
  rfl
 ·congr 2
  simp
theorem cContains1{H:Heap}(s:ByteArray)(c:UInt8):Spec Tryz.prog 213 [.string s,.string ⟨#[c]⟩] H fun v _=>v= .bool (decide (0<=Lib.indexByte s.data.toList c)):=by
 have h154:Spec Tryz.prog 239 [.string s,.string ⟨#[c]⟩] H fun v _=>v=i64 (Lib.indexByte s.data.toList c):=by
  refine TryzvcJ Tryz.func239 (by kernel_rfl) (by kernel_rfl) _ rfl (fun base K=>vc154 s ⟨#[c]⟩ base H K) fun base hb=> ?_
  exact(cStrIndex s c).int1 fun H1 _ _=>rfl
 refine TryzvcJ Tryz.func213 (by kernel_rfl) (by kernel_rfl) _ rfl (fun base K=>vc144 s ⟨#[c]⟩ base H K) fun base hb=> ?_
 exact h154.int1 fun H1 _ _=>rfl
def usesB(k:Int):ByteArray:=if k=1 then⟨#[116,114]⟩ else if k=2 then⟨#[116]⟩ else if k=3 then⟨#[116,103]⟩ else if k=4 then⟨#[114]⟩ else if k=5 then⟨#[110]⟩ else if k=6 then⟨#[97,116]⟩ else if k=7 then⟨#[97,116,103]⟩ else⟨#[]⟩
theorem nine{k:Int}(h1:1<=k)(h9:k<=9):k=1∨k=2∨k=3∨k=4∨k=5∨k=6∨k=7∨k=8∨k=9:=by omega
theorem cUses{H:Heap}{k:Int}(h1:1<=k)(h9:k<=9):Spec Tryz.prog 230 [.int .i64 k] H fun v _=>v= .string (usesB k):=by
 refine TryzvcJ Tryz.func230 (by kernel_rfl) (by kernel_rfl) _ rfl (fun base K=>vc145 k base H K) fun base hb=>⟨by omega,by omega,usesB k,?_,rfl⟩
 rcases nine h1 h9 with rfl|rfl|rfl|rfl|rfl|rfl|rfl|rfl|rfl<;>rfl
theorem cHas143{H:Heap}{k:Int}(h1:1<=k)(h9:k<=9)(c:UInt8){p:Nat}(hp:H.cell p 0=some (i64 k)):Spec Tryz.prog 229 [.string ⟨#[c]⟩,.pointer (some ⟨p,0,none⟩)] H fun v _=>v= .bool (decide (0<=Lib.indexByte (usesB k).data.toList c)):=by
 refine TryzvcJ Tryz.func229 (by kernel_rfl) (by kernel_rfl) _ rfl (fun base K=>vc143 ⟨#[c]⟩ p base H K) fun base hb=>⟨k,hp,?_⟩
 refine(cUses h1 h9).mono fun v H1 e1 hv=>⟨_,hv,fun hN1=> ?_⟩
 exact(cContains1 (usesB k) c).bool1 fun H2 _ _=>rfl
theorem cHas{G:Bool->Heap->Prop}{k:Int}(h1:1<=k)(h9:k<=9){rest:List Value}{xs:List Bx}{b base:Nat}{Hb H:Heap}(e0:Ext Hb H){c:UInt8}{P:Prop}[Decidable P](hP:0<=Lib.indexByte (usesB k).data.toList c↔P)(hG:∀H',Ext Hb H'->G (decide P) H'):
  true=true/\∀Hl,Vg.Next 0 H Hl->Hl b=some (boxKB 126 (.int .i64 k::rest))/\True->Spec Tryz.prog 229 [.string ⟨#[c]⟩,.pointer (some ⟨b,0,none⟩)] Hl fun v H''=>∃b1:Bool,v= .bool b1/\∀H',Vg.Next base H H'->(∀(b2:Nat)(k:KB),H'' b2=some k->(∀x:Bx,x∈xs->b2≠Bx.b x)->H' b2=some k)->G b1 H':=
 ⟨rfl,fun Hl hN hb=>(cHas143 h1 h9 c (p:=b) (by unfold Heap.cell;rw[hb.1];rfl)).mono fun v H2 _ hv=>⟨decide P,by rw[hv];congr 1;exact decide_eq_decide.2 hP,fun H' hN' _=>hG H' (e0.trans hN'.ext)⟩⟩
section
variable {k : Int} (h1 : 1 <= k) (h9 : k <= 9)
include h1 h9
theorem hasA:0<=Lib.indexByte (usesB k).data.toList 97↔(k=6∨k=7):=by rcases nine h1 h9 with rfl|rfl|rfl|rfl|rfl|rfl|rfl|rfl|rfl<;>decide
theorem hasT:0<=Lib.indexByte (usesB k).data.toList 116↔(k=1∨k=2∨k=3∨k=6∨k=7):=by rcases nine h1 h9 with rfl|rfl|rfl|rfl|rfl|rfl|rfl|rfl|rfl<;>decide
theorem hasN:0<=Lib.indexByte (usesB k).data.toList 110↔k=5:=by rcases nine h1 h9 with rfl|rfl|rfl|rfl|rfl|rfl|rfl|rfl|rfl<;>decide
theorem hasG:0<=Lib.indexByte (usesB k).data.toList 103↔(k=3∨k=7):=by rcases nine h1 h9 with rfl|rfl|rfl|rfl|rfl|rfl|rfl|rfl|rfl<;>decide
theorem hasR:0<=Lib.indexByte (usesB k).data.toList 114↔(k=1∨k=4):=by rcases nine h1 h9 with rfl|rfl|rfl|rfl|rfl|rfl|rfl|rfl|rfl<;>decide
end
theorem cRecCheck{H:Heap}{a:O}{l c:Nat}{r:Recd}(hp:Pins H a l r.rel.lock):Spec Tryz.prog 198 [recArg r a l c] H fun v _=>v=i64 (recErr r):=by
 obtain⟨kd,ag,tr,n,gd,⟨id,lock⟩⟩:=r
 have hp:Pins H a l lock:=hp
 refine TryzvcJ Tryz.func198 (by kernel_rfl) (by kernel_rfl) _ rfl (fun base K=>vc124 kd ag tr n id gd a l c base H K) fun base hb=> ?_
 have hpl:=hp.len
 have hnr:noRel ⟨id,lock⟩↔id=0/\l=0:=by unfold noRel;rw[len_zero hpl]
 intro b
 refine⟨kd<1∨9<kd,⟨fun _=>⟨rfl,fun _ _ h=>h,by omega⟩,fun _=>⟨rfl,fun _ _ h=>h,by omega⟩⟩,fun h=>by rw[recErr,if_pos h],fun h=> ?_⟩
 have h1:1<=kd:=by omega
 have h9:kd<=9:=by omega
 have hA:=hasA h1 h9
 have hT:=hasT h1 h9
 have hN:=hasN h1 h9
 have hG:=hasG h1 h9
 have hR:=hasR h1 h9
 refine⟨recForm ⟨kd,ag,tr,n,gd,⟨id,lock⟩⟩,?_,fun h2=>by rw[recErr,if_neg h,if_pos h2],fun h2=> ?_⟩
 ·have hF:recForm ⟨kd,ag,tr,n,gd,⟨id,lock⟩⟩↔(ag≠0/\¬(kd=6∨kd=7))∨(tr≠0/\¬(kd=1∨kd=2∨kd=3∨kd=6∨kd=7))∨(n≠0/\¬kd=5)∨(gd=true/\¬(kd=3∨kd=7))∨(¬(id=0/\l=0)/\¬(kd=1∨kd=4)):=by unfold recForm;rw[hnr]
  generalize recForm ⟨kd,ag,tr,n,gd,⟨id,lock⟩⟩=φ at hF
  clear hnr hpl hp h
  repeat' (first
   |refine cHas h1 h9 (Hb:=H) (by first|assumption|exact fun _ _ h=>h) hA fun _ _=> ?_
   |refine cHas h1 h9 (Hb:=H) (by first|assumption|exact fun _ _ h=>h) hT fun _ _=> ?_
   |refine cHas h1 h9 (Hb:=H) (by first|assumption|exact fun _ _ h=>h) hN fun _ _=> ?_
   |refine cHas h1 h9 (Hb:=H) (by first|assumption|exact fun _ _ h=>h) hG fun _ _=> ?_
   |refine cHas h1 h9 (Hb:=H) (by first|assumption|exact fun _ _ h=>h) hR fun _ _=> ?_
   |exact⟨rfl,by first|assumption|exact fun _ _ h=>h,by clear hA hT hN hG hR;grind⟩
   |intro _
   |refine⟨?_,?_⟩)
 refine⟨recRange ⟨kd,ag,tr,n,gd,⟨id,lock⟩⟩,?_,fun h3=>by rw[recErr,if_neg h,if_neg h2,if_pos h3],fun h3=> ?_⟩
 ·have hF:recRange ⟨kd,ag,tr,n,gd,⟨id,lock⟩⟩↔ag<0∨6<=ag∨((kd=1∨kd=2∨kd=3∨kd=6∨kd=7)/\(tr<1∨200<tr))∨(kd=5/\(n<1∨6<n)):=Iff.rfl
  generalize recRange ⟨kd,ag,tr,n,gd,⟨id,lock⟩⟩=φ at hF
  clear hnr hpl hp h h2
  repeat' (first
   |refine cHas h1 h9 (Hb:=H) (by first|assumption|exact fun _ _ h=>h) hT fun _ _=> ?_
   |refine cHas h1 h9 (Hb:=H) (by first|assumption|exact fun _ _ h=>h) hN fun _ _=> ?_
   |exact⟨rfl,by first|assumption|exact fun _ _ h=>h,by clear hA hT hN hG hR;grind⟩
   |intro _
   |refine⟨?_,?_⟩)
 refine cHas h1 h9 (Hb:=H) (fun _ _ h=>h) hR fun H2 e2=>⟨fun hb=> ?_,fun hb=> ?_⟩
 ·refine(cNoteRelease (hp.ext' e2) id).int1 fun H3 _ _=> ?_
  rw[recErr,if_neg h,if_neg h2,if_neg h3,if_pos (by simpa using hb)]
 ·rw[recErr,if_neg h,if_neg h2,if_neg h3,if_neg (by simpa using hb)]
open Go Go.Proofs
open Go.Value renaming int → I, slice → S, bool → B, agg → A, tuple → T, pointer → P, string → Str
open Go.IntKind renaming i64 → Z, wrap → W
open Go.Addr renaming mk → D
open Go.Vg.Bx renaming mk → J
open Go.Vg renaming Next → X, Spec → Y, SpecO → YO
open Go.Vg.Heap renaming cell → C
open Int renaming toNat → N
theorem vc94(fid bud:Int)(fa ra wa:O)(fl fc rl rc wl wc:Nat)(base:Nat)(H:Heap)(K:KT):
 (fV TryzMutsJ Tryz.f88 base H [.v (A #[I Z fid,S fa fl fc,S ra rl rc,S wa wl wc,I Z bud])] [] K)=(
 (fun w1:LL=>∀a:Nat,∃(b:LI)(c:LM),b [I Z 0,I Z 0] H/\∀(d e:Int)(g:Heap),X base H g->b [I Z d,I Z e] g->(e<(wl:Int)->∃h i,wa=some (D h i none)/\0<=e/\e<(wl:Int)/\∃j k l,C g h (i+N e*1)=some (S j k l)/\∀m:Int,m=W Z (d+if 7<(k:Int) then 7 else(k:Int))->(6<m->K (I Z m) [] g)/\(¬6<m->∀n:Int,n=W Z (e+1)->w1=w1/\b [I Z m,I Z n] g/\c [I Z m,I Z n]<c [I Z d,I Z e]))/\(¬e<(wl:Int)->K (I Z d) [] g)) [[I Z fid,S fa fl fc,S ra rl rc,S wa wl wc,I Z bud]]):=by kernel_rfl
theorem vc95(fid bud:Int)(fa ra wa:O)(fl fc rl rc wl wc:Nat)(base:Nat)(H:Heap)(K:KT):
 (fV TryzMutsJ Tryz.f101 base H [.v (A #[I Z fid,S fa fl fc,S ra rl rc,S wa wl wc,I Z bud])] [] K)=(
 ∀a:Nat,(fun w1:LB=>Y Tryz.prog 167 [A #[I Z fid,S fa fl fc]] H fun b c=>∃d,b=I Z d/\(X base H c->(¬d=0->K (I Z d) [] c)/\(¬¬d=0->∃e:Prop,((¬fid=1->w1=w1/\SubH c c/\e)/\(¬¬fid=1->(bud<0->w1=w1/\SubH c c/\e)/\(¬bud<0->w1=w1/\SubH c c/\(e↔3<bud))))/\(e->K (I Z 3) [] c)/\(¬e->Y Tryz.prog 186 [S fa fl fc,S ra rl rc] c fun g h=>∃i j,g=T #[I Z i,I Z j]/\(X base c h->(¬j=0->K (I Z j) [] h)/\(¬¬j=0->(0<=i->K (I Z 8) [] h)/\(¬0<=i->Y Tryz.prog 88 [A #[I Z fid,S fa fl fc,S ra rl rc,S wa wl wc,I Z bud]] h fun k l=>∃m,k=I Z m/\(X base h l->Y Tryz.prog 187 [S wa wl wc,I Z m] l fun n o=>∃p,n=I Z p/\(X base l o->K (I Z p) [] o))))))))) [J a false 28 [I Z fid,S fa fl fc,S ra rl rc,S wa wl wc,I Z bud]]):=by kernel_rfl
theorem vc84(fid bud:Int)(fa ra wa:O)(fl fc rl rc wl wc:Nat)(base:Nat)(H:Heap)(K:KT):
 (fV TryzMutsJ Tryz.f86 base H [.v (A #[I Z fid,S fa fl fc,S ra rl rc,S wa wl wc,I Z bud])] [] K)=(
 (fun w1:LV=>∀a b:Nat,Y Tryz.prog 101 w1 H fun c d=>∃e,c=I Z e/\(X base H d->(¬e=0->K (T #[A #[S none 0 0,I Z 0,I Z 0,B false,S none 0 0,I Z 0],I Z e]) [] d)/\(¬¬e=0->Y Tryz.prog 163 [S fa fl fc] d fun g h=>∃i j k,g=S i j k/\(X base d h->∀l:Nat,(∀(m:Nat)(n:Heap),X base h n->h m=none->n m=some (boxKB 24 [I Z 1,S i j k])->Y Tryz.prog 88 w1 n fun o p=>∃q,o=I Z q/\(X base n p->0<=q/\q<=q/\N q*24<=140737488355328/\q<=9223372036854775807/\∀(r:Nat)(s:Heap),X base p s->p r=none->s r=some (boxKB 95 (List.flatten (List.replicate (N q) [I Z 0,I Z 0,B false])))->K (T #[A #[S (some (D m 0 none)) 1 1,I Z 1,I Z 0,B false,S (some (D r 0 none)) (N q) (N q),I Z 1],I Z 0]) [] s))/\Y Tryz.prog 88 w1 h fun m n=>∃o,m=I Z o/\(X base h n->(∀(p:Nat)(q:Heap),X base n q->n p=none->q p=some (boxKB 24 [I Z 1,S i j k])->0<=o/\o<=o/\N o*24<=140737488355328/\o<=9223372036854775807/\∀(r:Nat)(s:Heap),X base q s->q r=none->s r=some (boxKB 95 (List.flatten (List.replicate (N o) [I Z 0,I Z 0,B false])))->K (T #[A #[S (some (D p 0 none)) 1 1,I Z 1,I Z 0,B false,S (some (D r 0 none)) (N o) (N o),I Z 1],I Z 0]) [] s)/\0<=o/\o<=o/\N o*24<=140737488355328/\o<=9223372036854775807/\∀(p:Nat)(q:Heap),X base n q->n p=none->q p=some (boxKB 95 (List.flatten (List.replicate (N o) [I Z 0,I Z 0,B false])))->∀(r:Nat)(s:Heap),X base q s->q r=none->s r=some (boxKB 24 [I Z 1,S i j k])->K (T #[A #[S (some (D r 0 none)) 1 1,I Z 1,I Z 0,B false,S (some (D p 0 none)) (N o) (N o),I Z 1],I Z 0]) [] s))))) [A #[I Z fid,S fa fl fc,S ra rl rc,S wa wl wc,I Z bud]]):=by kernel_rfl
abbrev vt77_1(fid bud:Int)(fa ra wa:O)(fl fc rl rc wl wc:Nat)(la ka:O)(ll lc kl kc:Nat)(now goal nx:Int)(back:Bool)(base:Nat)(H:Heap)(K:KT)(H':Heap)(H'_1:Heap)(n_2:Int)(n:Int)(b:Nat)(b_1:Nat):Prop:=
 (fun w4:LV=>(fun w3:LV=>(fun w2:LL=>X base H' H'_1->(¬(kl:Int)=n_2->K (I Z 4) [] H'_1)/\(¬¬(kl:Int)=n_2->∃a c,la=some (D a c none)/\Int.ofNat 0<=0/\0<(ll:Int)/\∃(d:Int)(e:O)(g h:Nat),(C H'_1 a (c+0*2)=some (I Z d)/\C H'_1 a (c+0*2+1)=some (S e g h)/\True)/\Y Tryz.prog 56 [A #[I Z d,S e g h],A #[I Z fid,S fa fl fc]] H'_1 fun i j=>∃k,i=B k/\(X base H'_1 j->(k=false->K (I Z 4) [] j)/\(¬k=false->∃(l:LI)(m:LM),l [I Z n,I Z 0] j/\∀(o p:Int)(q:Heap),X base H q->l [I Z o,I Z p] q->(p<(kl:Int)->∃r s,ka=some (D r s none)/\0<=p/\p<(kl:Int)/\∃(t u:Int)(v:Bool),(C q r (s+N p*3)=some (I Z t)/\C q r (s+N p*3+1)=some (I Z u)/\C q r (s+N p*3+2)=some (B v)/\True)/\∀w:Nat,(fun w1:LB=>∃x:Prop,((t<0->w1=w1/\SubH q q/\x)/\(¬t<0->(3<t->w1=w1/\SubH q q/\x)/\(¬3<t->(u<0->w1=w1/\SubH q q/\x)/\(¬u<0->w1=w1/\SubH q q/\(x↔nx<=u)))))/\(x->K (I Z 3) [] q)/\(¬x->∃y:Prop,((¬t=0->(goal=0->w1=w1/\SubH q q/\y)/\(¬goal=0->(u=0->w1=w1/\SubH q q/\y)/\(¬u=0->(v=true->(back=false->w1=w1/\SubH q q/\y)/\(¬back=false->w1=w1/\SubH q q/\(y↔t=0)))/\(v=false->w1=w1/\SubH q q/\¬y))))/\(¬¬t=0->(v=true->(back=false->w1=w1/\SubH q q/\y)/\(¬back=false->w1=w1/\SubH q q/\(y↔t=0)))/\(v=false->w1=w1/\SubH q q/\¬y)))/\(y->K (I Z 4) [] q)/\(¬y->∀z:Int,z=W Z (p+1)->w2=w2/\l [I Z o,I Z z] q/\m [I Z o,I Z z]<m [I Z o,I Z p]))) [J b false 28 w4,J b_1 false 32 w3,J w false 95 [I Z t,I Z u,B v]])/\(¬p<(kl:Int)->K (I Z 0) [] q))))) [w4,w3]) [S la ll lc,I Z now,I Z goal,B back,S ka kl kc,I Z nx]) [I Z fid,S fa fl fc,S ra rl rc,S wa wl wc,I Z bud]
theorem vc77(fid bud:Int)(fa ra wa:O)(fl fc rl rc wl wc:Nat)(la ka:O)(ll lc kl kc:Nat)(now goal nx:Int)(back:Bool)(base:Nat)(H:Heap)(K:KT):
 (fV TryzMutsJ Tryz.f197 base H [.v (A #[I Z fid,S fa fl fc,S ra rl rc,S wa wl wc,I Z bud]),.v (A #[S la ll lc,I Z now,I Z goal,B back,S ka kl kc,I Z nx])] [] K)=(
 (fun w4:LV=>(fun w3:LL=>(fun w2:LV=>∀a b:Nat,(fun w1:LB=>Y Tryz.prog 101 w2 H fun c d=>∃e,c=I Z e/\(X base H d->(¬e=0->K (I Z e) [] d)/\(¬¬e=0->∃g:Prop,(((ll:Int)=0->w1=w1/\SubH d d/\g)/\(¬(ll:Int)=0->w1=w1/\SubH d d/\(g↔6<(ll:Int))))/\(g->K (I Z 2) [] d)/\(¬g->∃(h:LI)(i:LM),h [I Z 0,I Z 0] d/\∀(j k:Int)(l:Heap),X base H l->h [I Z j,I Z k] l->(k<(ll:Int)->∃m n,la=some (D m n none)/\0<=k/\k<(ll:Int)/\∃(o:Int)(p:O)(q r:Nat),(C l m (n+N k*2)=some (I Z o)/\C l m (n+N k*2+1)=some (S p q r)/\True)/\∀s:Nat,Y Tryz.prog 186 [S p q r,S ra rl rc] l fun t u=>∃v w,t=T #[I Z v,I Z w]/\(X base l u->(¬w=0->K (I Z w) [] u)/\(¬¬w=0->(0<=v->K (I Z 8) [] u)/\(¬0<=v->∀x:Int,x=W Z (k+1)->(¬o=x->K (I Z 4) [] u)/\(¬¬o=x->∀y:Int,y=W Z (k+1)->w3=w3/\h [I Z j,I Z y] u/\i [I Z j,I Z y]<i [I Z j,I Z k])))))/\(¬k<(ll:Int)->∃m:Prop,((now<1->w1=w1/\SubH l l/\m)/\(¬now<1->((ll:Int)<now->w1=w1/\SubH l l/\m)/\(¬(ll:Int)<now->(goal<0->w1=w1/\SubH l l/\m)/\(¬goal<0->((ll:Int)<goal->w1=w1/\SubH l l/\m)/\(¬(ll:Int)<goal->(nx<1->w1=w1/\SubH l l/\m)/\(¬nx<1->w1=w1/\SubH l l/\(m↔201<nx)))))))/\(m->K (I Z 3) [] l)/\(¬m->(goal=now->K (I Z 4) [] l)/\(¬goal=now->(goal=0->(back=true->K (I Z 4) [] l)/\(back=false->Y Tryz.prog 88 w2 l fun n o=>∃p,n=I Z p/\(vt77_1 fid bud fa ra wa fl fc rl rc wl wc la ka ll lc kl kc now goal nx back base H K l o p j a b)))/\(¬goal=0->Y Tryz.prog 88 w2 l fun n o=>∃p,n=I Z p/\(vt77_1 fid bud fa ra wa fl fc rl rc wl wc la ka ll lc kl kc now goal nx back base H K l o p j a b))))))))) [J a false 28 [I Z fid,S fa fl fc,S ra rl rc,S wa wl wc,I Z bud],J b false 32 w4]) [A #[I Z fid,S fa fl fc,S ra rl rc,S wa wl wc,I Z bud]]) [[I Z fid,S fa fl fc,S ra rl rc,S wa wl wc,I Z bud],w4]) [S la ll lc,I Z now,I Z goal,B back,S ka kl kc,I Z nx]):=by kernel_rfl
theorem vc129(la ka:O)(ll lc kl kc:Nat)(now goal nx:Int)(back:Bool)(base:Nat)(H:Heap)(K:KT):
 (fV TryzMutsJ Tryz.f170 base H [.v (A #[S la ll lc,I Z now,I Z goal,B back,S ka kl kc,I Z nx])] [] K)=(
 ∀a b:Nat,Y Tryz.prog 216 [S la ll lc] H fun c d=>∃e g h,c=S e g h/\(X base H d->Y Tryz.prog 217 [S ka kl kc] d fun i j=>∃k l m,(fun w1:LL=>i=S k l m/\(X base d j->∃(n:LI)(o:LM),n [I Z 0] j/\∀(p:Int)(q:Heap),X base H q->n [I Z p] q->(p<(g:Int)->∃r s,e=some (D r s none)/\0<=p/\p<(g:Int)/\∃(t:Int)(u:O)(v w:Nat),(C q r (s+N p*2)=some (I Z t)/\C q r (s+N p*2+1)=some (S u v w)/\True)/\∀x:Nat,Y Tryz.prog 163 [S u v w] q fun y z=>∃a1 b1 c1,y=S a1 b1 c1/\(X base q z->∃d1 e1,e=some (D d1 e1 none)/\0<=p/\p<(g:Int)/\∃f1:KB,z d1=some f1/\KB.free f1=true/\base<=d1/\e1+N p*2+1+1<=KB.size f1/\∀g1:Heap,Upd z d1 (e1+N p*2+1) f1 [S a1 b1 c1] g1->∀h1:Int,h1=W Z (p+1)->w1=w1/\n [I Z h1] g1/\o [I Z h1]<o [I Z p]))/\(¬p<(g:Int)->K (A #[S e g h,I Z now,I Z goal,B back,S k l m,I Z nx]) [] q))) [[S e g h,I Z now,I Z goal,B back,S k l m,I Z nx],[S none 0 0,I Z 0,I Z 0,B false,S none 0 0,I Z 0]])):=by kernel_rfl
theorem vc149(la ka:O)(ll lc kl kc:Nat)(now goal nx:Int)(back:Bool)(base:Nat)(H:Heap)(K:KT):
 (fV TryzMutsJ Tryz.f253 base H [.v (A #[S la ll lc,I Z now,I Z goal,B back,S ka kl kc,I Z nx])] [] K)=(
 (fun w1:LL=>∀a:Nat,∃(b:LI)(c:LM),b [S none 0 0,I Z 0] H/\∀(d:O)(e g:Nat)(h:Int)(i:Heap),X base H i->b [S d e g,I Z h] i->(h<(kl:Int)->∃j k,ka=some (D j k none)/\0<=h/\h<(kl:Int)/\∃(l m:Int)(n:Bool),(C i j (k+N h*3)=some (I Z l)/\C i j (k+N h*3+1)=some (I Z m)/\C i j (k+N h*3+2)=some (B n)/\True)/\∀o:Nat,(l=2->∀p:Nat,∃q:List Value,Row base i 4 1 d e g q/\(e+1)*1<=140737488355328/\e+1<=9223372036854775807/\∀(r:O)(s:Nat)(t:Heap),Grew base i t d g r s (e+1)->Row base t 4 1 r (e+1) s (q++[B true])->∀u:Int,u=W Z (h+1)->w1=w1/\b [S r (e+1) s,I Z u] t/\c [S r (e+1) s,I Z u]<c [S d e g,I Z h])/\(¬l=2->∀p:Nat,∃q:List Value,Row base i 4 1 d e g q/\(e+1)*1<=140737488355328/\e+1<=9223372036854775807/\∀(r:O)(s:Nat)(t:Heap),Grew base i t d g r s (e+1)->Row base t 4 1 r (e+1) s (q++[B (decide (l=3))])->∀u:Int,u=W Z (h+1)->w1=w1/\b [S r (e+1) s,I Z u] t/\c [S r (e+1) s,I Z u]<c [S d e g,I Z h]))/\(¬h<(kl:Int)->K (S d e g) [] i)) [[S la ll lc,I Z now,I Z goal,B back,S ka kl kc,I Z nx]]):=by kernel_rfl
theorem vc150(la ka:O)(ll lc kl kc:Nat)(now goal nx:Int)(back:Bool)(base:Nat)(H:Heap)(K:KT):
 (fV TryzMutsJ Tryz.f254 base H [.v (A #[S la ll lc,I Z now,I Z goal,B back,S ka kl kc,I Z nx])] [] K)=(
 (fun w1:LL=>∀a:Nat,∃(b:LI)(c:LM),b [I Z 0,I Z 0] H/\∀(d e:Int)(g:Heap),X base H g->b [I Z d,I Z e] g->(e<(kl:Int)->∃h i,ka=some (D h i none)/\0<=e/\e<(kl:Int)/\∃(j k:Int)(l:Bool),(C g h (i+N e*3)=some (I Z j)/\C g h (i+N e*3+1)=some (I Z k)/\C g h (i+N e*3+2)=some (B l)/\True)/\∀m:Nat,(j=3->∀n:Int,n=W Z (d+1)->∀o:Int,o=W Z (e+1)->w1=w1/\b [I Z n,I Z o] g/\c [I Z n,I Z o]<c [I Z d,I Z e])/\(¬j=3->∀n:Int,n=W Z (e+1)->w1=w1/\b [I Z d,I Z n] g/\c [I Z d,I Z n]<c [I Z d,I Z e]))/\(¬e<(kl:Int)->K (I Z d) [] g)) [[S la ll lc,I Z now,I Z goal,B back,S ka kl kc,I Z nx]]):=by kernel_rfl
theorem vc134(fid bud:Int)(fa ra wa:O)(fl fc rl rc wl wc:Nat)(la ka:O)(ll lc kl kc:Nat)(now goal nx:Int)(back:Bool)(k:Int)(base:Nat)(H:Heap)(K:KT):
 (fV TryzMutsJ Tryz.f231 base H [.v (A #[I Z fid,S fa fl fc,S ra rl rc,S wa wl wc,I Z bud]),.v (A #[S la ll lc,I Z now,I Z goal,B back,S ka kl kc,I Z nx]),.v (I Z k)] [] K)=(
 (fun w2:LV=>∀a b:Nat,∃c d,ka=some (D c d none)/\0<=k/\k<(kl:Int)/\∃(e g:Int)(h:Bool),(C H c (d+N k*3)=some (I Z e)/\C H c (d+N k*3+1)=some (I Z g)/\C H c (d+N k*3+2)=some (B h)/\True)/\∀i:Nat,(fun w1:LB=>(back=true->∃j:Prop,((¬e=0->w1=w1/\SubH H H/\(j↔h=false))/\(¬¬e=0->w1=w1/\SubH H H/\¬j))/\K (B (@decide j (Classical.propDecidable j))) [] H)/\(back=false->Y Tryz.prog 253 w2 H fun j l=>∃m n o,j=S m n o/\(X base H l->Y Tryz.prog 252 [S wa wl wc,S m n o] l fun p q=>∃r s,p=T #[I Z r,I Z s]/\(X base l q->(s=0->(e=0->Y Tryz.prog 49 [S wa wl wc,I Z k] q fun t u=>∃v,t=I Z v/\(X base q u->(v=r->Y Tryz.prog 254 w2 u fun w x=>∃y,w=I Z y/\(X base u x->K (B (decide (y<=bud))) [] x))/\(¬v=r->K (B false) [] u)))/\(¬e=0->K (B false) [] q))/\(¬s=0->K (B false) [] q))))) [J a false 28 [I Z fid,S fa fl fc,S ra rl rc,S wa wl wc,I Z bud],J b false 32 [S la ll lc,I Z now,I Z goal,B back,S ka kl kc,I Z nx],J i false 95 [I Z e,I Z g,B h]]) [A #[S la ll lc,I Z now,I Z goal,B back,S ka kl kc,I Z nx]]):=by kernel_rfl
theorem vc135(fid bud:Int)(fa ra wa:O)(fl fc rl rc wl wc:Nat)(la ka:O)(ll lc kl kc:Nat)(now goal nx:Int)(back:Bool)(base:Nat)(H:Heap)(K:KT):
 (fV TryzMutsJ Tryz.f232 base H [.v (A #[I Z fid,S fa fl fc,S ra rl rc,S wa wl wc,I Z bud]),.v (A #[S la ll lc,I Z now,I Z goal,B back,S ka kl kc,I Z nx])] [] K)=(
 (fun w1:LV=>∀a b:Nat,(back=false->Y Tryz.prog 254 w1 H fun c d=>∃e,c=I Z e/\(X base H d->(e<=bud->Y Tryz.prog 253 w1 d fun g h=>∃i j k,g=S i j k/\(X base d h->Y Tryz.prog 255 [S i j k,B false] h fun l m=>∃n,l=B n/\(X base h m->K (B (decide (n=false))) [] m)))/\(¬e<=bud->K (B false) [] d)))/\(¬back=false->Y Tryz.prog 256 [S ka kl kc,Value.func (Fn.func 257) #[] #[]] H fun c d=>∃e,c=B e/\(X base H d->K (B (decide (e=false))) [] d))) [A #[S la ll lc,I Z now,I Z goal,B back,S ka kl kc,I Z nx]]):=by kernel_rfl
theorem vc82a(a:O)(l c:Nat)(base:Nat)(H:Heap)(K:KT):
 (fV TryzMutsJ Tryz.f256 base H [.v (S a l c),.v (.func (.func 257) #[] #[])] [] K)=(
 Y Tryz.prog 275 [S a l c,Value.func (Fn.func 257) #[] #[]] H fun b d=>∃e,b=I Z e/\(X base H d->K (B (decide (0<=e))) [] d)):=by kernel_rfl
theorem vc136a(a:O)(l c:Nat)(base:Nat)(H:Heap)(K:KT):
 (fV TryzMutsJ Tryz.f275 base H [.v (S a l c),.v (.func (.func 257) #[] #[])] [] K)=(
 ∃(b:LI)(d:LM),b [I Z 0,I Z 0] H/\∀(e g:Int)(h:Heap),X base H h->b [I Z e,I Z g] h->(g<(l:Int)->∃i j,a=some (D i j none)/\0<=g/\g<(l:Int)/\∃(k m:Int)(n:Bool),(C h i (j+N g*3)=some (I Z k)/\C h i (j+N g*3+1)=some (I Z m)/\C h i (j+N g*3+2)=some (B n)/\True)/\Y Tryz.prog 257 [A #[I Z k,I Z m,B n]] h fun o p=>∃q,o=B q/\(X base h p->(q=true->K (I Z g) [] p)/\(q=false->∀r:Int,r=W Z (g+1)->b [I Z e,I Z r] p/\d [I Z e,I Z r]<d [I Z e,I Z g])))/\(¬g<(l:Int)->K (I Z (-1)) [] h)):=by kernel_rfl
theorem vc152(st tr:Int)(bk:Bool)(base:Nat)(H:Heap)(K:KT):
 (fV TryzMutsJ Tryz.f257 base H [.v (A #[I Z st,I Z tr,B bk])] [] K)=(
 ∀a:Nat,(fun w1:LB=>∃b:Prop,((st=1->w1=w1/\SubH H H/\b)/\(¬st=1->(¬st=0->w1=w1/\SubH H H/\(b↔bk=false))/\(¬¬st=0->w1=w1/\SubH H H/\¬b)))/\K (B (@decide b (Classical.propDecidable b))) [] H) [J a false 95 [I Z st,I Z tr,B bk]]):=by kernel_rfl
theorem vc96(la ka:O)(ll lc kl kc:Nat)(now goal nx:Int)(back:Bool)(la' ka':O)(ll' lc' kl' kc':Nat)(now' goal' nx':Int)(back':Bool)(base:Nat)(H:Heap)(K:KT):
 (fV TryzMutsJ Tryz.f36 base H [.v (A #[S la ll lc,I Z now,I Z goal,B back,S ka kl kc,I Z nx]),.v (A #[S la' ll' lc',I Z now',I Z goal',B back',S ka' kl' kc',I Z nx'])] [] K)=(
 ∀a b:Nat,(fun w1:LB=>∃c:Prop,(Y Tryz.prog 76 [S la ll lc,S la' ll' lc',Value.func (Fn.func 56) #[] #[]] H fun d e=>∃g,d=B g/\(X base H e->(g=true->(now=now'->(goal=goal'->∃h,RunsTo Tryz.prog (binRun BinOp.eql 4 (Operand.tmp 26) (Operand.tmp 28) (B back) (B back')) (B h)/\(h=true->Y Tryz.prog 78 [S ka kl kc,S ka' kl' kc'] e fun i j=>∃k,i=B k/\(X base e j->(k=true->w1=w1/\SubH H j/\(c↔nx=nx'))/\(k=false->w1=w1/\SubH H j/\¬c)))/\(¬h=true->w1=w1/\SubH H e/\¬c))/\(¬goal=goal'->w1=w1/\SubH H e/\¬c))/\(¬now=now'->w1=w1/\SubH H e/\¬c))/\(g=false->w1=w1/\SubH H e/\¬c)))/\K (B (@decide c (Classical.propDecidable c))) [] H) [J a false 32 [S la ll lc,I Z now,I Z goal,B back,S ka kl kc,I Z nx],J b false 32 [S la' ll' lc',I Z now',I Z goal',B back',S ka' kl' kc',I Z nx']]):=by kernel_rfl
theorem vc85a(a a':O)(l c l' c':Nat)(base:Nat)(H:Heap)(K:KT):
 (fV TryzMutsJ Tryz.f76 base H [.v (S a l c),.v (S a' l' c'),.v (.func (.func 56) #[] #[])] [] K)=(
 (¬(l:Int)=(l':Int)->K (B false) [] H)/\(¬¬(l:Int)=(l':Int)->∃(b:LI)(d:LM),b [B false,I Z 0] H/\∀(e:Bool)(g:Int)(h:Heap),X base H h->b [B e,I Z g] h->(g<(l:Int)->∃i j,a=some (D i j none)/\0<=g/\g<(l:Int)/\∃(k:Int)(m:O)(n o:Nat),(C h i (j+N g*2)=some (I Z k)/\C h i (j+N g*2+1)=some (S m n o)/\True)/\∀p:Nat,∃q r,a'=some (D q r none)/\0<=g/\g<(l':Int)/\∃(s:Int)(t:O)(u v:Nat),(C h q (r+N g*2)=some (I Z s)/\C h q (r+N g*2+1)=some (S t u v)/\True)/\∀w:Nat,Y Tryz.prog 56 [A #[I Z k,S m n o],A #[I Z s,S t u v]] h fun x y=>∃z,x=B z/\(X base h y->(z=false->K (B false) [] y)/\(¬z=false->∀a1:Int,a1=W Z (g+1)->b [B e,I Z a1] y/\d [B e,I Z a1]<d [B e,I Z g])))/\(¬g<(l:Int)->K (B true) [] h))):=by kernel_rfl
theorem vc138(a a':O)(l c l' c':Nat)(base:Nat)(H:Heap)(K:KT):
 (fV TryzMutsJ Tryz.f78 base H [.v (S a l c),.v (S a' l' c')] [] K)=(
 (¬(l:Int)=(l':Int)->K (B false) [] H)/\(¬¬(l:Int)=(l':Int)->∃(b:LI)(d:LM),b [B false,I Z 0] H/\∀(e:Bool)(g:Int)(h:Heap),X base H h->b [B e,I Z g] h->(g<(l:Int)->∃i j,a=some (D i j none)/\0<=g/\g<(l:Int)/\∃(k m:Int)(n:Bool),(C h i (j+N g*3)=some (I Z k)/\C h i (j+N g*3+1)=some (I Z m)/\C h i (j+N g*3+2)=some (B n)/\True)/\∃o p,a'=some (D o p none)/\0<=g/\g<(l':Int)/\∃(q r:Int)(s:Bool),(C h o (p+N g*3)=some (I Z q)/\C h o (p+N g*3+1)=some (I Z r)/\C h o (p+N g*3+2)=some (B s)/\True)/\∃t,RunsTo Tryz.prog (binRun BinOp.neq 95 (Operand.tmp 19) (Operand.tmp 23) (A #[I Z k,I Z m,B n]) (A #[I Z q,I Z r,B s])) (B t)/\(t=true->K (B false) [] h)/\(¬t=true->∀u:Int,u=W Z (g+1)->b [B e,I Z u] h/\d [B e,I Z u]<d [B e,I Z g]))/\(¬g<(l:Int)->K (B true) [] h))):=by kernel_rfl
theorem vc147(a:O)(l c:Nat)(base:Nat)(H:Heap)(K:KT):
 (fV TryzMutsJ Tryz.f216 base H [.v (S a l c)] [] K)=(
 ∃b,RunsTo Tryz.prog (binRun BinOp.eql 29 (Operand.tmp 3) (Operand.const (S none 0 0)) (S a l c) (S none 0 0)) (B b)/\(b=true->K (S none 0 0) [] H)/\(¬b=true->∀(d:Nat)(e:Heap),X base H e->H d=none->e d=some (boxKB 24 [])->∃g h:List Value,Row base e 24 2 (some (D d 0 none)) 0 0 g/\List.length h=l*2/\allOne h=true/\(l=0∨∃i j,a=some (D i j none)/\cellsAt e i j 0 h)/\(0+l)*32<=140737488355328/\0+l<=9223372036854775807/\∀(i:O)(j:Nat)(k:Heap),Grew base e k (some (D d 0 none)) 0 i j (0+l)->Row base k 24 2 i (0+l) j (g++h)->K (S i (0+l) j) [] k)):=by kernel_rfl
theorem vc148(a:O)(l c:Nat)(base:Nat)(H:Heap)(K:KT):
 (fV TryzMutsJ Tryz.f217 base H [.v (S a l c)] [] K)=(
 ∃b,RunsTo Tryz.prog (binRun BinOp.eql 30 (Operand.tmp 3) (Operand.const (S none 0 0)) (S a l c) (S none 0 0)) (B b)/\(b=true->K (S none 0 0) [] H)/\(¬b=true->∀(d:Nat)(e:Heap),X base H e->H d=none->e d=some (boxKB 95 [])->∃g h:List Value,Row base e 95 3 (some (D d 0 none)) 0 0 g/\List.length h=l*3/\allOne h=true/\(l=0∨∃i j,a=some (D i j none)/\cellsAt e i j 0 h)/\(0+l)*24<=140737488355328/\0+l<=9223372036854775807/\∀(i:O)(j:Nat)(k:Heap),Grew base e k (some (D d 0 none)) 0 i j (0+l)->Row base k 95 3 i (0+l) j (g++h)->K (S i (0+l) j) [] k)):=by kernel_rfl
theorem vc151(a:O)(l c:Nat)(v:Bool)(base:Nat)(H:Heap)(K:KT):
 (fV TryzMutsJ Tryz.f255 base H [.v (S a l c),.v (B v)] [] K)=(
 Y Tryz.prog 274 [S a l c,B v] H fun b d=>∃e,b=I Z e/\(X base H d->K (B (decide (0<=e))) [] d)):=by kernel_rfl
theorem vc155(a:O)(l c:Nat)(v:Bool)(base:Nat)(H:Heap)(K:KT):
 (fV TryzMutsJ Tryz.f274 base H [.v (S a l c),.v (B v)] [] K)=(
 ∃(b:LI)(d:LM),b [I Z 0,I Z 0] H/\∀(e g:Int)(h:Heap),X base H h->b [I Z e,I Z g] h->(g<(l:Int)->∃i j,a=some (D i j none)/\0<=g/\g<(l:Int)/\∃k,C h i (j+N g*1)=some (B k)/\∃m,RunsTo Tryz.prog (binRun BinOp.eql 4 (Operand.tmp 11) (Operand.tmp 15) (B v) (B k)) (B m)/\(m=true->K (I Z g) [] h)/\(¬m=true->∀n:Int,n=W Z (g+1)->b [I Z e,I Z n] h/\d [I Z e,I Z n]<d [I Z e,I Z g]))/\(¬g<(l:Int)->K (I Z (-1)) [] h)):=by kernel_rfl
theorem vc80(fid bud:Int)(fa ra wa:O)(fl fc rl rc wl wc:Nat)(la ka:O)(ll lc kl kc:Nat)(now goal nx:Int)(back:Bool)(k:Int)(base:Nat)(H:Heap)(K:KT):
 (fV TryzMutsJ Tryz.f220 base H [.v (A #[I Z fid,S fa fl fc,S ra rl rc,S wa wl wc,I Z bud]),.v (A #[S la ll lc,I Z now,I Z goal,B back,S ka kl kc,I Z nx]),.v (I Z k)] [] K)=(
 (fun w2:LV=>∀a b c:Nat,(fun w1:LB=>Y Tryz.prog 197 [A #[I Z fid,S fa fl fc,S ra rl rc,S wa wl wc,I Z bud],A #[S la ll lc,I Z now,I Z goal,B back,S ka kl kc,I Z nx]] H fun d e=>∃g,d=I Z g/\(X base H e->(¬g=0->K (T #[B false,A #[I Z 0,S none 0 0],I Z g]) [] e)/\(¬¬g=0->∃h:Prop,((k<0->w1=w1/\SubH e e/\h)/\(¬k<0->w1=w1/\SubH e e/\(h↔(kl:Int)<=k)))/\(h->K (T #[B false,A #[I Z 0,S none 0 0],I Z 5]) [] e)/\(¬h->(goal=0->K (T #[B false,A #[I Z 0,S none 0 0],I Z 7]) [] e)/\(¬goal=0->(back=true->∀i:Int,i=W Z (now-1)->∃j l,la=some (D j l none)/\0<=i/\i<(ll:Int)/\∃(m:Int)(n:O)(o p:Nat),(C e j (l+N i*2)=some (I Z m)/\C e j (l+N i*2+1)=some (S n o p)/\True)/\∀q:Nat,Y Tryz.prog 231 w2 e fun r s=>∃t,r=B t/\(X base e s->Y Tryz.prog 163 [S n o p] s fun u v=>∃w x y,u=S w x y/\(X base s v->K (T #[B t,A #[I Z m,S w x y],I Z 0]) [] v)))/\(back=false->∀i:Int,i=W Z (goal-1)->∃j l,la=some (D j l none)/\0<=i/\i<(ll:Int)/\∃(m:Int)(n:O)(o p:Nat),(C e j (l+N i*2)=some (I Z m)/\C e j (l+N i*2+1)=some (S n o p)/\True)/\∀q:Nat,Y Tryz.prog 231 w2 e fun r s=>∃t,r=B t/\(X base e s->Y Tryz.prog 163 [S n o p] s fun u v=>∃w x y,u=S w x y/\(X base s v->K (T #[B t,A #[I Z m,S w x y],I Z 0]) [] v)))))))) [J a false 28 [I Z fid,S fa fl fc,S ra rl rc,S wa wl wc,I Z bud],J b false 32 [S la ll lc,I Z now,I Z goal,B back,S ka kl kc,I Z nx],J c false 24 [I Z 0,S none 0 0]]) [A #[I Z fid,S fa fl fc,S ra rl rc,S wa wl wc,I Z bud],A #[S la ll lc,I Z now,I Z goal,B back,S ka kl kc,I Z nx],I Z k]):=by kernel_rfl
end Go.Vg
