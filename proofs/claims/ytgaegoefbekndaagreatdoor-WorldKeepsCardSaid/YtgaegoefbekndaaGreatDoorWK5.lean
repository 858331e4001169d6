/- What is proved here: a part of the proof of laws of this seat: what a contract is, how it comes of a condition, contracts of the functions that are reached, the plain laws. -/
import Derived.Test.YtgaegoefbekndaaGreatDoorWK4
import Derived.KernelRfl
import Derived.Laws.Cover2
import Derived.Laws.Cover3
import Derived.Laws.Pointers
import Derived.Laws.Small
import Derived.Laws.StructEq
import Derived.Laws.Tables
import Derived.StillTactics
import Derived.Tactics
import Derived.Tactics2
set_option linter.unusedSimpArgs false
set_option linter.unusedVariables false
set_option maxRecDepth 100000
namespace Go.Vg
open Go
structure Step where
 kind:Int
 name:Int
 ver:Int
 deriving DecidableEq
def dropOf(b:List Pin)(p:Pin):Option Step:=if find b p.name=0 then some ⟨2,p.name,0⟩ else none
def addOf(a:List Pin)(p:Pin):Option Step:=if find a p.name=p.ver then none else if find a p.name=0 then some ⟨1,p.name,p.ver⟩ else some ⟨3,p.name,p.ver⟩
def drops(a b:List Pin):List Step:=a.filterMap (dropOf b)
def adds(a b:List Pin):List Step:=b.filterMap (addOf a)
def diffs(a b:List Pin):List Step:=drops a b++adds a b
def diffErr(a b:List Pin):Int:=if lockCheck a=0 then lockCheck b else lockCheck a
def del(n:Int)(l:List Pin):List Pin:=l.filter fun p=>p.name≠n
def applied(l:List Pin)(o:Step):List Pin:=if o.kind=2 then del o.name l else up o.name o.ver l
def badStep(o:Step):Prop:=o.name<1∨20<o.name∨(o.kind≠2/\(o.ver<1∨99<o.ver))∨(o.kind=2/\o.ver≠0)
instance (o:Step):Decidable (badStep o):=by unfold badStep;infer_instance
def applyErr(l:List Pin)(o:Step):Int:=
 if lockCheck l≠0 then lockCheck l else
 if o.kind<1∨3<o.kind then 4 else
 if badStep o then 3 else
 if o.kind=1/\find l o.name≠0 then 6 else
 if o.kind≠1/\find l o.name=0 then 5 else
 if o.kind=1/\l.length=12 then 2 else 0
theorem find_del{l:List Pin}(n m:Int):find (del n l) m=if m=n then 0 else find l m:=by
 induction l with
 |nil=>simp[del,find]
 |cons p r ih=>
  unfold del at ih⊢
  rw[List.filter_cons]
  by_cases h:p.name=n
  ·rw[if_neg (by simp[h]),ih]
   by_cases e:m=n
   ·rw[if_pos e,if_pos e]
   ·rw[if_neg e,if_neg e,find,if_neg (by omega)]
  ·rw[if_pos (by simp[h]),find,ih,find]
   by_cases e:p.name=m
   ·rw[if_pos e,if_pos e,if_neg (by omega)]
   ·rw[if_neg e,if_neg e]
theorem Lk.del{l:List Pin}(h:Lk l)(n:Int):Lk (del n l):=
 ⟨fun p hp=>h.good p (List.mem_filter.1 hp).1,h.rise.sublist List.filter_sublist⟩
theorem applied_find{l:List Pin}(h:Lk l)(o:Step)(m:Int)(hk:o.kind=2->o.ver=0):find (applied l o) m=if m=o.name then o.ver else find l m:=by
 unfold applied
 split
 ·rename_i e;rw[find_del,hk e]
 ·rw[find_up m h]
theorem names_len:∀ {l m:List Pin},Lk l->Lk m->(∀p∈l,find m p.name≠0)->l.length<=m.length:=by
 intro l m hl hm h
 have hlk:∀ {x:List Pin},Lk x->Lk (x.map fun p=>⟨p.name,1⟩):=fun hx=>⟨fun p hp=>by
  obtain⟨q,hq,rfl⟩:=List.mem_map.1 hp
  have:=hx.name hq
  unfold badPin;simp;omega,by
  rw[List.pairwise_map];exact hx.rise⟩
 have hf:∀(x:List Pin)(n:Int),Lk x->find (x.map fun p=>⟨p.name,1⟩) n=if find x n=0 then 0 else 1:=by
  intro x n hx
  induction x with
  |nil=>rfl
  |cons p r ih=>
   rw[List.map_cons,find,find]
   by_cases e:p.name=n
   ·have:=hx.name (p:=p) List.mem_cons_self
    rw[if_pos e,if_pos e,if_neg (by omega)]
   ·rw[if_neg e,if_neg e,ih hx.tail]
 have:=LeL.len (hlk hl) (hlk hm) fun n=>by
  rw[hf l n hl,hf m n hm]
  by_cases e:find l n=0
  ·rw[if_pos e];split<;>omega
  ·obtain⟨p,h1,h2,_⟩:=find_pos e
   have:=h p h1
   rw[h2] at this
   rw[if_neg e,if_neg this]
   exact Int.le_refl _
 simpa using this
theorem filterMap_congr'{f g:Pin->Option Step} :∀ {l:List Pin},(∀x∈l,g x=f x)->l.filterMap g=l.filterMap f
 | [],_=>rfl
 |x::r,h=>by
  have ih:=filterMap_congr' (l:=r) fun y hy=>h y (List.mem_cons_of_mem _ hy)
  have hx:=h x List.mem_cons_self
  cases hf:f x with
  |none=>rw[List.filterMap_cons_none hf,List.filterMap_cons_none (hx.trans hf),ih]
  |some s=>rw[List.filterMap_cons_some hf,List.filterMap_cons_some (hx.trans hf),ih]
theorem first_gone{f g:Pin->Option Step}{n:Int}(hn:∀q s,f q=some s->s.name=q.name):∀ {l:List Pin},l.Pairwise (fun p q=>p.name<q.name)->(∀q∈l,q.name≠n->g q=f q)->(∀q∈l,q.name=n->g q=none)->
  ∀ {o:Step} {rest:List Step},l.filterMap f=o::rest->o.name=n->l.filterMap g=rest
 | [],_,_,_,o,rest,h,_=>by cases h
 |q::r,hp,h1,h2,o,rest,h,ho=>by
  obtain⟨hq,hr⟩:=List.pairwise_cons.1 hp
  cases hf:f q with
  |none=>
   rw[List.filterMap_cons_none hf] at h
   have hg:g q=none:=by
    by_cases e:q.name=n
    ·exact h2 q List.mem_cons_self e
    ·rw[h1 q List.mem_cons_self e,hf]
   rw[List.filterMap_cons_none hg]
   exact first_gone hn hr (fun x hx=>h1 x (List.mem_cons_of_mem _ hx)) (fun x hx=>h2 x (List.mem_cons_of_mem _ hx)) h ho
  |some s=>
   rw[List.filterMap_cons_some hf] at h
   obtain⟨rfl,rfl⟩:s=o/\r.filterMap f=rest:=by simpa using h
   have e:=hn q s hf
   rw[List.filterMap_cons_none (h2 q List.mem_cons_self (by omega))]
   exact filterMap_congr' fun x hx=>h1 x (List.mem_cons_of_mem _ hx) (by have:=hq x hx;omega)
theorem dropOf_name{b:List Pin}(q:Pin)(s:Step)(h:dropOf b q=some s):s.name=q.name/\s.kind=2/\s.ver=0/\find b q.name=0:=by
 unfold dropOf at h
 split at h
 ·cases h;rename_i e;exact⟨rfl,rfl,rfl,e⟩
 ·cases h
theorem addOf_name{a:List Pin}(q:Pin)(s:Step)(h:addOf a q=some s):s.name=q.name/\s.ver=q.ver/\find a q.name≠q.ver/\(s.kind=1/\find a q.name=0∨s.kind=3/\find a q.name≠0):=by
 unfold addOf at h
 split at h
 ·cases h
 ·rename_i e
  split at h
  ·cases h;rename_i e2;exact⟨rfl,rfl,e,.inl ⟨rfl,e2⟩⟩
  ·cases h;rename_i e2;exact⟨rfl,rfl,e,.inr ⟨rfl,e2⟩⟩
theorem drops_nil{a b:List Pin}(h:drops a b=[]):∀p∈a,find b p.name≠0:=fun p hp e=>by
 have:=List.filterMap_eq_nil_iff.1 h p hp
 unfold dropOf at this
 rw[if_pos e] at this;cases this
structure StepOk(a b:List Pin)(o:Step):Prop where
 name:1<=o.name/\o.name<=20
 ver:o.ver=find b o.name
 differs:find a o.name≠find b o.name
 kind:(o.kind=2/\find b o.name=0/\find a o.name≠0)∨(o.kind=1/\find a o.name=0/\find b o.name≠0)∨(o.kind=3/\find a o.name≠0/\find b o.name≠0)
theorem diffs_mem{a b:List Pin}(ha:Lk a)(hb:Lk b){o:Step}(h:o∈diffs a b):StepOk a b o:=by
 rcases List.mem_append.1 h with h|h
 ·obtain⟨p,hp,he⟩:=List.mem_filterMap.1 h
  obtain⟨h1,h2,h3,h4⟩:=dropOf_name p o he
  have hn:=ha.name hp
  have hf:=find_mem ha hp
  rw[←h1] at h4 hn hf
  exact⟨⟨hn.1,hn.2.1⟩,by rw[h3,h4],by rw[hf,h4];omega,.inl ⟨h2,h4,by rw[hf];omega⟩⟩
 ·obtain⟨p,hp,he⟩:=List.mem_filterMap.1 h
  obtain⟨h1,h2,h3,h4⟩:=addOf_name p o he
  have hn:=hb.name hp
  have hf:=find_mem hb hp
  rw[←h1] at h3 h4 hn hf
  refine⟨⟨hn.1,hn.2.1⟩,by rw[h2,hf],by rw[hf];exact h3,?_⟩
  rcases h4 with⟨h5,h6⟩|⟨h5,h6⟩
  ·exact .inr (.inl ⟨h5,h6,by rw[hf];omega⟩)
  ·exact .inr (.inr ⟨h5,h6,by rw[hf];omega⟩)
theorem StepOk.good{a b:List Pin}(hb:Lk b){o:Step}(h:StepOk a b o):¬badStep o/\1<=o.kind/\o.kind<=3/\(o.kind=2->o.ver=0)/\(o.kind≠2->1<=o.ver/\o.ver<=99):=by
 have h1:=h.name
 have h2:=h.ver
 have h3:=hb.find_range o.name
 unfold badStep
 rcases h.kind with h4|h4|h4<;>omega
theorem StepOk.applied{a b:List Pin}(ha:Lk a)(hb:Lk b){o:Step}(h:StepOk a b o):Lk (applied a o)/\∀m,find (applied a o) m=if m=o.name then find b m else find a m:=by
 have hg:=h.good hb
 refine⟨?_,fun m=> ?_⟩
 ·unfold Vg.applied
  split
  ·exact ha.del _
  ·rename_i e;exact ha.up h.name (hg.2.2.2.2 e)
 ·rw[applied_find ha o m hg.2.2.2.1]
  by_cases e:m=o.name
  ·rw[if_pos e,if_pos e,e,h.ver]
  ·rw[if_neg e,if_neg e]
theorem diffs_step{a b:List Pin}(ha:Lk a)(hb:Lk b){o:Step}{rest:List Step}(h:diffs a b=o::rest):diffs (applied a o) b=rest:=by
 have hok:=diffs_mem ha hb (h▸List.mem_cons_self:o∈diffs a b)
 obtain⟨hL,hf⟩:=hok.applied ha hb
 unfold diffs at h⊢
 cases hd:drops a b with
 |nil=>
  rw[hd,List.nil_append] at h
  have h1:drops (applied a o) b=[]:=List.filterMap_eq_nil_iff.2 fun p hp=>by
   have hm:=hL.name hp
   have:=hf p.name
   rw[find_mem hL hp] at this
   rw[dropOf,if_neg]
   intro e
   by_cases e2:p.name=o.name
   ·rw[if_pos e2] at this;omega
   ·rw[if_neg e2] at this
    obtain⟨q,hq,hqn,_⟩:=find_pos (l:=a) (n:=p.name) (by omega)
    have:=drops_nil hd q hq
    rw[hqn] at this;exact this e
  rw[h1,List.nil_append]
  refine first_gone (f:=addOf a) (g:=addOf (applied a o)) (n:=o.name) (fun q s hs=>(addOf_name q s hs).1) hb.rise (fun q hq hn=> ?_) (fun q hq hn=> ?_) h rfl
  ·unfold addOf;rw[hf,if_neg hn]
  ·unfold addOf;rw[hf,if_pos hn,if_pos (find_mem hb hq)]
 |cons o' r=>
  rw[hd] at h
  obtain⟨rfl,rfl⟩:o'=o/\r++adds a b=rest:=by simpa using h
  obtain⟨p,hp,he⟩:=List.mem_filterMap.1 (hd▸List.mem_cons_self:o'∈drops a b)
  obtain⟨h1,h2,h3,h4⟩:=dropOf_name p o' he
  have happ:applied a o'=del o'.name a:=by unfold applied;rw[if_pos h2]
  have hdr:drops (applied a o') b=r:=by
   have e1:(del o'.name a).filterMap (dropOf b)=a.filterMap fun q=>if q.name≠o'.name then dropOf b q else none:=by
    unfold del
    generalize a=x
    induction x with
    |nil=>rfl
    |cons q x ih=>
     rw[List.filter_cons]
     by_cases e:q.name=o'.name
     ·rw[if_neg (by simp[e]),ih,List.filterMap_cons_none (by simp[e])]
     ·rw[if_pos (by simp[e])]
      cases hq:dropOf b q with
      |none=>rw[List.filterMap_cons_none hq,List.filterMap_cons_none (by simp[e,hq]),ih]
      |some s=>rw[List.filterMap_cons_some hq,List.filterMap_cons_some (b:=s) (by simp[e,hq]),ih]
   unfold drops
   rw[happ,e1]
   refine first_gone (f:=dropOf b) (n:=o'.name) (fun q s hs=>(dropOf_name q s hs).1) ha.rise (fun q hq hn=> ?_) (fun q hq hn=> ?_) hd rfl
   ·rw[if_pos hn]
   ·rw[if_neg (by simp[hn])]
  have had:adds (applied a o') b=adds a b:=by
   unfold adds
   refine filterMap_congr' fun q hq=> ?_
   have hne:q.name≠o'.name:=fun e=>by
    have:=hb.name hq
    rw[←e] at h1
    rw[←h1,find_mem hb hq] at h4;omega
   unfold addOf;rw[hf,if_neg hne]
  rw[hdr,had]
theorem diffs_fits{a b:List Pin}(ha:Lk a)(hb:Lk b)(ha12:a.length<=12)(hb12:b.length<=12){o:Step}{rest:List Step}(h:diffs a b=o::rest):applyErr a o=0/\(applied a o).length<=12:=by
 have hok:=diffs_mem ha hb (h▸List.mem_cons_self:o∈diffs a b)
 obtain⟨hL,hf⟩:=hok.applied ha hb
 have hg:=hok.good hb
 have hlen:(applied a o).length<=12/\(o.kind=1->a.length+1<=(applied a o).length):=by
  rcases hok.kind with⟨h1,h2,h3⟩|⟨h1,h2,h3⟩|⟨h1,h2,h3⟩
  ·refine⟨?_,by omega⟩
   unfold applied;rw[if_pos h1]
   have:=List.length_filter_le (fun p:Pin=>p.name≠o.name) a
   unfold del;omega
  ·have hdn:drops a b=[]:=by
    cases hd:drops a b with
    |nil=>rfl
    |cons o' r=>
     obtain⟨p,hp,he⟩:=List.mem_filterMap.1 (hd▸List.mem_cons_self:o'∈drops a b)
     have:=dropOf_name p o' he
     unfold diffs at h
     rw[hd] at h
     obtain⟨rfl,_⟩:o'=o/\r++adds a b=rest:=by simpa using h
     omega
   have h5:=names_len hL hb fun p hp=>by
    by_cases e:p.name=o.name
    ·rw[e];exact h3
    ·have hm:=hL.name hp
     have:=hf p.name
     rw[find_mem hL hp,if_neg e] at this
     obtain⟨q,hq,hqn,_⟩:=find_pos (l:=a) (n:=p.name) (by omega)
     have:=drops_nil hdn q hq
     rw[hqn] at this;exact this
   refine⟨by omega,fun _=> ?_⟩
   unfold applied;rw[if_neg (by omega)]
   have:∀ {l:List Pin},find l o.name=0->(∀p∈l,p.ver≠0)->(up o.name o.ver l).length=l.length+1:=by
    intro l
    induction l with
    |nil=>intro _ _;rfl
    |cons p r ih=>
     intro h hv
     rw[find] at h
     have hp:=hv p List.mem_cons_self
     by_cases e:p.name=o.name
     ·rw[if_pos e] at h;exact absurd h hp
     ·rw[if_neg e] at h
      unfold up
      split
      ·simp
      ·simp[ih h fun q hq=>hv q (List.mem_cons_of_mem _ hq)]
   rw[this h2 fun p hp=>by have:=ha.name hp;omega]
   exact Nat.le_refl _
  ·refine⟨?_,by omega⟩
   have h5:=names_len hL ha fun p hp=>by
    by_cases e:p.name=o.name
    ·rw[e];exact h2
    ·have hm:=hL.name hp
     have:=hf p.name
     rw[find_mem hL hp,if_neg e] at this
     omega
   omega
 refine⟨?_,hlen.1⟩
 unfold applyErr
 rw[if_neg (by simp[lockCheck_zero.2 ⟨ha,ha12⟩]),if_neg (by omega),if_neg hg.1]
 rcases hok.kind with⟨h1,h2,h3⟩|⟨h1,h2,h3⟩|⟨h1,h2,h3⟩
 ·rw[if_neg (by omega),if_neg (by omega),if_neg (by omega)]
 ·rw[if_neg (by omega),if_neg (by omega),if_neg (by have:=hlen.2 h1;omega)]
 ·rw[if_neg (by omega),if_neg (by omega),if_neg (by omega)]
def between(ops:List Step)(l:List Pin):Int->List Pin->Int
 |k,now=>match ops with
  | []=>if now=l then k else-1
  |o::r=>if now=l then k else between r l (k+1) (applied now o)
theorem diffErr_zero{a b:List Pin} :diffErr a b=0↔(Lk a/\a.length<=12)/\(Lk b/\b.length<=12):=by
 unfold diffErr
 rw[←lockCheck_zero,←lockCheck_zero]
 split<;>rename_i h<;>simp[h]
open Go
def inR(n a b:Int):Bool:=decide (a<=n/\n<=b)
def waveIn(k:Int):List Int->List Int->Except Int (List Int)
 |seen,[]=> .ok seen
 |seen,a::r=>if a<0 then .error 5 else if k<=a then .error 5 else if a∈seen then .error 6 else waveIn k (seen++[a]) r
def waveAll(k:Int):List Int->List (List Int)->Int
 |seen,[]=>if(seen.length:Int)<k then 4 else 0
 |seen,w::r=>if w=[] then 4 else match waveIn k seen w with| .error e=>e| .ok s=>waveAll k s r
def waveCheck(l:List (List Int))(k:Int):Int:=if k<1 then 3 else if 6<k then 3 else waveAll k [] l
def WOk(k:Int)(s:List Int):Prop:=s.Nodup/\∀a∈s,0<=a/\a<k
theorem wok_nil(k:Int):WOk k []:=⟨List.nodup_nil,by simp⟩
theorem wok_snoc{k:Int}{s:List Int}(h:WOk k s){a:Int}(h0:0<=a)(h1:a<k)(hn:a∉s):WOk k (s++[a]):=by
 refine⟨?_,fun b hb=> ?_⟩
 ·rw[List.nodup_append]
  refine⟨h.1,by simp,fun x hx y hy=> ?_⟩
  simp at hy;subst hy;rintro rfl;exact hn hx
 ·rw[List.mem_append] at hb
  rcases hb with hb|hb
  ·exact h.2 b hb
  ·simp at hb;subst hb;exact⟨h0,h1⟩
theorem nodup_len:∀(n:Nat)(s:List Int),s.Nodup->(∀a∈s,0<=a/\a<n)->s.length<=n
 |0,s,_,h=>by
  cases s with
  |nil=>simp
  |cons a r=>have:=h a List.mem_cons_self;omega
 |n+1,s,hn,h=>by
  by_cases hm:(n:Int)∈s
  ·have h1:=List.length_erase_of_mem hm
   have h2:=nodup_len n (s.erase n) (hn.erase _) (fun a ha=>by
    rw[hn.mem_erase_iff] at ha
    have:=h a ha.2
    have:=ha.1
    omega)
   have h3:0<s.length:=List.length_pos_of_mem hm
   omega
  ·have h2:=nodup_len n s hn (fun a ha=>by
    have:=h a ha
    have:a≠n:=by rintro rfl;exact hm ha
    omega)
   omega
theorem WOk.len{k:Int}{s:List Int}(h:WOk k s)(hk:0<=k):(s.length:Int)<=k:=by
 have:=nodup_len k.toNat s h.1 (fun a ha=>by have:=h.2 a ha;omega)
 omega
theorem waveIn_ok{k:Int} :∀(w:List Int) {s s':List Int},WOk k s->waveIn k s w= .ok s'->s'=s++w/\WOk k s'
 | [],s,s',h,e=>by simp[waveIn] at e;subst e;simp[h]
 |a::r,s,s',h,e=>by
  unfold waveIn at e
  split at e
  ·cases e
  ·split at e
   ·cases e
   ·split at e
    ·cases e
    ·rename_i h0 h1 h2
     obtain⟨e1,e2⟩:=waveIn_ok r (wok_snoc h (by omega) (by omega) h2) e
     exact⟨by rw[e1];simp,e2⟩
theorem waveAll_zero{k:Int}(hk:0<=k):∀(l:List (List Int)) {s:List Int},WOk k s->waveAll k s l=0->WOk k (s++l.flatten)/\((s++l.flatten).length:Int)=k/\∀w∈l,w≠[]
 | [],s,h,e=>by
  unfold waveAll at e
  split at e
  ·omega
  ·have:=h.len hk
   simp only[List.flatten_nil,List.append_nil]
   exact⟨h,by omega,by simp⟩
 |w::r,s,h,e=>by
  unfold waveAll at e
  split at e
  ·omega
  ·rename_i hw
   cases e2:waveIn k s w with
   |error x=>
    rw[e2] at e
    simp only at e
    exfalso
    clear hk
    induction w generalizing s with
    |nil=>simp[waveIn] at e2
    |cons a q ih=>
     unfold waveIn at e2
     split at e2
     ·cases e2;omega
     ·split at e2
      ·cases e2;omega
      ·split at e2
       ·cases e2;omega
       ·rename_i h0 h1 h2
        by_cases hq:q=[]
        ·subst hq;simp[waveIn] at e2
        ·exact ih _ (wok_snoc h (by omega) (by omega) h2) hq e2
   |ok s'=>
    rw[e2] at e
    obtain⟨e3,e4⟩:=waveIn_ok w h e2
    obtain⟨a1,a2,a3⟩:=waveAll_zero hk r e4 e
    subst e3
    rw[List.flatten_cons,←List.append_assoc]
    exact⟨a1,a2,fun x hx=>by
     rcases List.mem_cons.1 hx with rfl|hx
     ·exact hw
     ·exact a3 x hx⟩
theorem nodup_full:∀(n:Nat)(s:List Int),s.Nodup->(∀a∈s,0<=a/\a<n)->s.length=n->∀a:Int,0<=a->a<n->a∈s:=by
 intro n s hn h hl a h0 h1
 by_cases hm:a∈s
 ·exact hm
 ·have:=nodup_len n (a::s) (List.nodup_cons.2 ⟨hm,hn⟩) (fun b hb=>by
   rcases List.mem_cons.1 hb with rfl|hb
   ·exact⟨h0,h1⟩
   ·exact h b hb)
  simp at this
  omega
theorem waveCheck_zero{l:List (List Int)}{k:Int}(h:waveCheck l k=0):1<=k/\k<=6/\l.flatten.Nodup/\(∀a:Int,a∈l.flatten↔0<=a/\a<k)/\∀w∈l,w≠[]:=by
 unfold waveCheck at h
 split at h
 ·omega
 ·split at h
  ·omega
  ·obtain⟨h1,h2,h3⟩:=waveAll_zero (by omega) l (wok_nil k) h
   simp only[List.nil_append] at h1 h2
   refine⟨by omega,by omega,h1.1,fun a=>⟨h1.2 a,fun⟨ha,hb⟩=> ?_⟩,h3⟩
   exact nodup_full k.toNat _ h1.1 (fun b hb=>by have:=h1.2 b hb;omega) (by omega) a ha (by omega)

def waveOfFrom(a:Int):Int->List (List Int)->Int
 |_,[]=> -1
 |i,w::r=>if a∈w then i else waveOfFrom a (i+1) r
def waveOf(l:List (List Int))(a:Int):Int:=waveOfFrom a 0 l
def notThrough(th:List Bool)(a:Int):Bool:=th[a.toNat]?==some false
def nowFrom(th:List Bool):Int->List (List Int)->Int
 |i,[]=>i
 |i,w::r=>if w.any (notThrough th) then i else nowFrom th (i+1) r
open Go Go.Proofs
open Go.Value renaming int → I, slice → S, bool → B, agg → A, tuple → T, pointer → P, string → Str
open Go.IntKind renaming i64 → Z, wrap → W
open Go.Addr renaming mk → D
open Go.Vg.Bx renaming mk → J
open Go.Vg renaming Next → X, Spec → Y, SpecO → YO
open Go.Vg.Heap renaming cell → C
open Int renaming toNat → N
theorem vc102(n a b:Int)(base:Nat)(H:Heap)(K:KT):
 (fV TryzMuts Tryz.f92 base H [.v (I Z n),.v (I Z a),.v (I Z b)] [] K)=(
 (a<=n->K (B (decide (n<=b))) [] H)/\(¬a<=n->K (B false) [] H)):=by kernel_rfl
theorem vc140(a:O)(l c:Nat)(x:Int)(base:Nat)(H:Heap)(K:KT):
 (fV TryzMuts Tryz.f194 base H [.v (S a l c),.v (I Z x)] [] K)=(
 ∃(b:LI)(d:LM),b [I Z 0,I Z 0] H/\∀(e g:Int)(h:Heap),X base H h->b [I Z e,I Z g] h->(g<(l:Int)->∃i j,a=some (D i j none)/\0<=g/\g<(l:Int)/\∃k,C h i (j+N g*1)=some (I Z k)/\(x=k->K (I Z g) [] h)/\(¬x=k->∀m:Int,m=W Z (g+1)->b [I Z e,I Z m] h/\d [I Z e,I Z m]<d [I Z e,I Z g]))/\(¬g<(l:Int)->K (I Z (-1)) [] h)):=by kernel_rfl
theorem vc103(a:O)(l c:Nat)(x:Int)(base:Nat)(H:Heap)(K:KT):
 (fV TryzMuts Tryz.f137 base H [.v (S a l c),.v (I Z x)] [] K)=(
 Y Tryz.prog 194 [S a l c,I Z x] H fun b d=>∃e,b=I Z e/\(X base H d->K (B (decide (0<=e))) [] d)):=by kernel_rfl
theorem vc26(a:O)(l c:Nat)(k:Int)(base:Nat)(H:Heap)(K:KT):
 (fV TryzMuts Tryz.f187 base H [.v (S a l c),.v (I Z k)] [] K)=(
 (k<1->K (I Z 3) [] H)/\(¬k<1->(6<k->K (I Z 3) [] H)/\(¬6<k->∀b:Nat,∃(d:LI)(e:LM),d [I Z 0,I Z 0,A #[]] H/\∀(g h:Int)(i:List Value)(j:Heap),X base H j->d [I Z g,I Z h,A (List.toArray i)] j->(h<(l:Int)->∃m n,a=some (D m n none)/\0<=h/\h<(l:Int)/\∃o p q,C j m (n+N h*1)=some (S o p q)/\((p:Int)=0->K (I Z 4) [] j)/\(¬(p:Int)=0->∃(r:LI)(s:LM),r [I Z g,I Z 0,A (List.toArray i)] j/\∀(t u:Int)(v:List Value)(w:Heap),X base H w->r [I Z t,I Z u,A (List.toArray v)] w->(u<(p:Int)->∃x y,o=some (D x y none)/\0<=u/\u<(p:Int)/\∃z,C w x (y+N u*1)=some (I Z z)/\(z<0->K (I Z 5) [] w)/\(¬z<0->(k<=z->K (I Z 5) [] w)/\(¬k<=z->∃a1 b1:Bool,mapGet (B false) (I Z z) v=some (B a1,b1)/\(a1=true->K (I Z 6) [] w)/\(a1=false->∃c1:List Value,mapSet (I Z z) (B true) v=some c1/\∀d1:Int,d1=W Z (u+1)->r [I Z t,I Z d1,A (List.toArray c1)] w/\s [I Z t,I Z d1,A (List.toArray c1)]<s [I Z t,I Z u,A (List.toArray v)]))))/\(¬u<(p:Int)->∀x:Int,x=W Z (h+1)->d [I Z t,I Z x,A (List.toArray v)] w/\e [I Z t,I Z x,A (List.toArray v)]<e [I Z g,I Z h,A (List.toArray i)])))/\(¬h<(l:Int)->((↑(List.length i/2):Int)<k->K (I Z 4) [] j)/\(¬(↑(List.length i/2):Int)<k->K (I Z 0) [] j))))):=by kernel_rfl
theorem vc105(a:O)(l c:Nat)(p:Nat)(base:Nat)(H:Heap)(K:KT):
 (fV TryzMuts Tryz.f136 base H [.v (S a l c),.v (.pointer (some ⟨p,0,none⟩))] [] K)=(
 ∃b,C H p 0=some (I Z b)/\Y Tryz.prog 137 [S a l c,I Z b] H fun d e=>∃g,d=B g/\(X base H e->K (B g) [] e)):=by kernel_rfl
theorem vc104(a:O)(l c:Nat)(p:Nat)(base:Nat)(H:Heap)(K:KT):
 (fV TryzMuts Tryz.f135 base H [.v (S a l c),.v (.func (.func 136) #[] #[.pointer (some ⟨p,0,none⟩)])] [] K)=(
 ∃(b:LI)(d:LM),b [I Z 0,I Z 0] H/\∀(e g:Int)(h:Heap),X base H h->b [I Z e,I Z g] h->(g<(l:Int)->∃i j,a=some (D i j none)/\0<=g/\g<(l:Int)/\∃k m n,C h i (j+N g*1)=some (S k m n)/\Y Tryz.prog 136 [S k m n,P (some (D p 0 none))] h fun o q=>∃r,o=B r/\(X base h q->(r=true->K (I Z g) [] q)/\(r=false->∀s:Int,s=W Z (g+1)->b [I Z e,I Z s] q/\d [I Z e,I Z s]<d [I Z e,I Z g])))/\(¬g<(l:Int)->K (I Z (-1)) [] h)):=by kernel_rfl
theorem vc27(a:O)(l c:Nat)(k:Int)(base:Nat)(H:Heap)(K:KT):
 (fV TryzMuts Tryz.f49 base H [.v (S a l c),.v (I Z k)] [] K)=(
 ∀b:Nat,true=true/\∀d:Heap,X 0 H d->d b=some (boxKB 3 [I Z k])/\True->Y Tryz.prog 135 [S a l c,Value.func (Fn.func 136) #[] #[P (some (D b 0 none))]] d fun e g=>∃h,e=I Z h/\∀i,X base H i->(∀(j:Nat)(m:KB),g j=some m->(∀n:Bx,n∈ [J b false 3 [I Z k]]->j≠Bx.b n)->i j=some m)->K (I Z h) [] i):=by kernel_rfl
theorem vc23(a a':O)(l c l' c':Nat)(base:Nat)(H:Heap)(K:KT):
 (fV TryzMuts Tryz.f252 base H [.v (S a l c),.v (S a' l' c')] [] K)=(
 Y Tryz.prog 187 [S a l c,I Z (l':Int)] H fun b d=>∃e,b=I Z e/\(X base H d->(¬e=0->K (T #[I Z 0,I Z e]) [] d)/\(¬¬e=0->∃(g:LI)(h:LM),g [I Z 0,I Z 0,I Z 0] d/\∀(i j k:Int)(m:Heap),X base H m->g [I Z i,I Z j,I Z k] m->(k<(l:Int)->∃n o,a=some (D n o none)/\0<=k/\k<(l:Int)/\∃p q r,C m n (o+N k*1)=some (S p q r)/\∃(s:LI)(t:LM),s [I Z i,I Z j,I Z 0] m/\∀(u v w:Int)(x:Heap),X base H x->s [I Z u,I Z v,I Z w] x->(w<(q:Int)->∃y z,p=some (D y z none)/\0<=w/\w<(q:Int)/\∃a1,C x y (z+N w*1)=some (I Z a1)/\∃b1 c1,a'=some (D b1 c1 none)/\0<=a1/\a1<(l':Int)/\∃d1,C x b1 (c1+N a1*1)=some (B d1)/\(d1=false->K (T #[I Z k,I Z 0]) [] x)/\(¬d1=false->∀e1:Int,e1=W Z (w+1)->s [I Z u,I Z v,I Z e1] x/\t [I Z u,I Z v,I Z e1]<t [I Z u,I Z v,I Z w]))/\(¬w<(q:Int)->∀y:Int,y=W Z (k+1)->g [I Z u,I Z v,I Z y] x/\h [I Z u,I Z v,I Z y]<h [I Z i,I Z j,I Z k]))/\(¬k<(l:Int)->K (T #[I Z (l:Int),I Z 0]) [] m)))):=by kernel_rfl
open Go Go.Proofs
theorem vc62(a:O)(l c:Nat)(base:Nat)(H:Heap)(K:KT):
 (fV TryzMuts Tryz.f140 base H [.v (S a l c)] [] K)=(
 (12<(l:Int)->K (I Z 2) [] H)/\(¬12<(l:Int)->∃(b:LI)(d:LM),b [I Z 0,I Z 0] H/\∀(e g:Int)(h:Heap),X base H h->b [I Z e,I Z g] h->(g<(l:Int)->∃i j,a=some (D i j none)/\0<=g/\g<(l:Int)/\∃k m:Int,(C h i (j+N g*2)=some (I Z k)/\C h i (j+N g*2+1)=some (I Z m)/\True)/\∀n:Nat,(k<1->K (I Z 3) [] h)/\(¬k<1->(20<k->K (I Z 3) [] h)/\(¬20<k->(m<1->K (I Z 3) [] h)/\(¬m<1->(99<m->K (I Z 3) [] h)/\(¬99<m->(0<g->∀o:Int,o=W Z (g-1)->∃p q,a=some (D p q none)/\0<=o/\o<(l:Int)/\∃r,C h p (q+N o*2)=some (I Z r)/\(k<=r->K (I Z 6) [] h)/\(¬k<=r->∀s:Int,s=W Z (g+1)->b [I Z e,I Z s] h/\d [I Z e,I Z s]<d [I Z e,I Z g]))/\(¬0<g->∀o:Int,o=W Z (g+1)->b [I Z e,I Z o] h/\d [I Z e,I Z o]<d [I Z e,I Z g]))))))/\(¬g<(l:Int)->K (I Z 0) [] h))):=by kernel_rfl
theorem vc108(a:O)(l c:Nat)(base:Nat)(H:Heap)(K:KT):
 (fV TryzMuts Tryz.f159 base H [.v (S a l c)] [] K)=(
 (12<(l:Int)->K (I Z 2) [] H)/\(¬12<(l:Int)->∃(b:LI)(d:LM),b [I Z 0,I Z 0,I Z 0] H/\∀(e g h:Int)(i:Heap),X base H i->b [I Z e,I Z g,I Z h] i->(h<(l:Int)->∃j k,a=some (D j k none)/\0<=h/\h<(l:Int)/\∃m n:Int,(C i j (k+N h*2)=some (I Z m)/\C i j (k+N h*2+1)=some (I Z n)/\True)/\∀o:Nat,Y Tryz.prog 92 [I Z m,I Z 1,I Z 20] i fun p q=>∃r,p=B r/\(X base i q->(r=false->K (I Z 3) [] q)/\(¬r=false->Y Tryz.prog 92 [I Z n,I Z 1,I Z 99] q fun s t=>∃u,s=B u/\(X base q t->(u=false->K (I Z 3) [] t)/\(¬u=false->(m<=g->K (I Z 6) [] t)/\(¬m<=g->∀v:Int,v=W Z (h+1)->b [I Z e,I Z m,I Z v] t/\d [I Z e,I Z m,I Z v]<d [I Z e,I Z g,I Z h]))))))/\(¬h<(l:Int)->K (I Z 0) [] i))):=by kernel_rfl
theorem vc114(n v:Int)(p:Nat)(base:Nat)(H:Heap)(K:KT):
 (fV TryzMuts Tryz.f148 base H [.v (A #[I Z n,I Z v]),.v (.pointer (some ⟨p,0,none⟩))] [] K)=(
 ∀a:Nat,∃b,C H p 0=some (I Z b)/\K (B (decide (n=b))) [] H):=by kernel_rfl
theorem vc113(a:O)(l c:Nat)(p:Nat)(base:Nat)(H:Heap)(K:KT):
 (fV TryzMuts Tryz.f147 base H [.v (S a l c),.v (.func (.func 148) #[] #[.pointer (some ⟨p,0,none⟩)])] [] K)=(
 ∃(b:LI)(d:LM),b [I Z 0,I Z 0] H/\∀(e g:Int)(h:Heap),X base H h->b [I Z e,I Z g] h->(g<(l:Int)->∃i j,a=some (D i j none)/\0<=g/\g<(l:Int)/\∃k m:Int,(C h i (j+N g*2)=some (I Z k)/\C h i (j+N g*2+1)=some (I Z m)/\True)/\Y Tryz.prog 148 [A #[I Z k,I Z m],P (some (D p 0 none))] h fun n o=>∃q,n=B q/\(X base h o->(q=true->K (I Z g) [] o)/\(q=false->∀r:Int,r=W Z (g+1)->b [I Z e,I Z r] o/\d [I Z e,I Z r]<d [I Z e,I Z g])))/\(¬g<(l:Int)->K (I Z (-1)) [] h)):=by kernel_rfl
theorem vc42(a:O)(l c:Nat)(k:Int)(base:Nat)(H:Heap)(K:KT):
 (fV TryzMuts Tryz.f75 base H [.v (S a l c),.v (I Z k)] [] K)=(
 ∀b:Nat,true=true/\∀d:Heap,X 0 H d->d b=some (boxKB 3 [I Z k])/\True->Y Tryz.prog 147 [S a l c,Value.func (Fn.func 148) #[] #[P (some (D b 0 none))]] d fun e g=>∃h,e=I Z h/\∀i,X base H i->(∀(j:Nat)(m:KB),g j=some m->(∀n:Bx,n∈ [J b false 3 [I Z k]]->j≠Bx.b n)->i j=some m)->(h<0->K (I Z 0) [] i)/\(¬h<0->∃j m,a=some (D j m none)/\0<=h/\h<(l:Int)/\∃n,C i j (m+N h*2+1)=some (I Z n)/\K (I Z n) [] i)):=by kernel_rfl
theorem vc41(a a':O)(l c l' c':Nat)(base:Nat)(H:Heap)(K:KT):
 (fV TryzMuts Tryz.f47 base H [.v (S a l c),.v (S a' l' c')] [] K)=(
 (¬(l:Int)=(l':Int)->K (B false) [] H)/\(¬¬(l:Int)=(l':Int)->∃(b:LI)(d:LM),b [B false,I Z 0] H/\∀(e:Bool)(g:Int)(h:Heap),X base H h->b [B e,I Z g] h->(g<(l:Int)->∃i j,a=some (D i j none)/\0<=g/\g<(l:Int)/\∃k m:Int,(C h i (j+N g*2)=some (I Z k)/\C h i (j+N g*2+1)=some (I Z m)/\True)/\∃n o,a'=some (D n o none)/\0<=g/\g<(l':Int)/\∃p q:Int,(C h n (o+N g*2)=some (I Z p)/\C h n (o+N g*2+1)=some (I Z q)/\True)/\∃r,RunsTo Tryz.prog (binRun BinOp.neq 91 (Operand.tmp 19) (Operand.tmp 23) (A #[I Z k,I Z m]) (A #[I Z p,I Z q])) (B r)/\(r=true->K (B false) [] h)/\(¬r=true->∀s:Int,s=W Z (g+1)->b [B e,I Z s] h/\d [B e,I Z s]<d [B e,I Z g]))/\(¬g<(l:Int)->K (B true) [] h))):=by kernel_rfl
theorem vc39(a:O)(l c:Nat)(base:Nat)(H:Heap)(K:KT):
 (fV TryzMuts Tryz.f222 base H [.v (S a l c)] [] K)=(
 (10<(l:Int)->K (I Z 2) [] H)/\(¬10<(l:Int)->∃(b:LI)(d:LM),b [I Z 0,I Z 0] H/\∀(e g:Int)(h:Heap),X base H h->b [I Z e,I Z g] h->(g<(l:Int)->∃i j,a=some (D i j none)/\0<=g/\g<(l:Int)/\∃k m n o:Int,(fun w1:LL=>(C h i (j+N g*4)=some (I Z k)/\C h i (j+N g*4+1)=some (I Z m)/\C h i (j+N g*4+2)=some (I Z n)/\C h i (j+N g*4+3)=some (I Z o)/\True)/\∀p:Nat,∃(q:LI)(r:LM),q [I Z e,I Z 0] h/\∀(s t:Int)(u:Heap),X base H u->q [I Z s,I Z t] u->(t<2->0<=t/\t<2/\∃v,List.get?Internal [I Z k,I Z n] (N t*1)=some (I Z v)/\(v<1->K (I Z 3) [] u)/\(¬v<1->(20<v->K (I Z 3) [] u)/\(¬20<v->∀w:Int,w=W Z (t+1)->w1=w1/\q [I Z s,I Z w] u/\r [I Z s,I Z w]<r [I Z s,I Z t])))/\(¬t<2->∃(v:LI)(w:LM),v [I Z s,I Z 0] u/\∀(x y:Int)(z:Heap),X base H z->v [I Z x,I Z y] z->(y<2->0<=y/\y<2/\∃a1,List.get?Internal [I Z m,I Z o] (N y*1)=some (I Z a1)/\(a1<1->K (I Z 3) [] z)/\(¬a1<1->(99<a1->K (I Z 3) [] z)/\(¬99<a1->∀b1:Int,b1=W Z (y+1)->w1=w1/\v [I Z x,I Z b1] z/\w [I Z x,I Z b1]<w [I Z x,I Z y])))/\(¬y<2->(k=n->K (I Z 4) [] z)/\(¬k=n->∀a1:Int,a1=W Z (g+1)->b [I Z x,I Z a1] z/\d [I Z x,I Z a1]<d [I Z e,I Z g])))) [[I Z k,I Z m,I Z n,I Z o]])/\(¬g<(l:Int)->K (I Z 0) [] h))):=by kernel_rfl
theorem vc34(a a':O)(l c l' c':Nat)(base:Nat)(H:Heap)(K:KT):
 (fV TryzMuts Tryz.f186 base H [.v (S a l c),.v (S a' l' c')] [] K)=(
 Y Tryz.prog 140 [S a l c] H fun b d=>∃e,b=I Z e/\(X base H d->(¬e=0->K (T #[I Z 0,I Z e]) [] d)/\(¬¬e=0->Y Tryz.prog 222 [S a' l' c'] d fun g h=>∃i,g=I Z i/\(X base d h->(¬i=0->K (T #[I Z 0,I Z i]) [] h)/\(¬¬i=0->∃(j:LI)(k:LM),j [I Z 0,I Z 0,I Z 0] h/\∀(m n o:Int)(p:Heap),X base H p->j [I Z m,I Z n,I Z o] p->(o<(l':Int)->∃q r,a'=some (D q r none)/\0<=o/\o<(l':Int)/\∃s t u v:Int,(C p q (r+N o*4)=some (I Z s)/\C p q (r+N o*4+1)=some (I Z t)/\C p q (r+N o*4+2)=some (I Z u)/\C p q (r+N o*4+3)=some (I Z v)/\True)/\∀w:Nat,Y Tryz.prog 75 [S a l c,I Z s] p fun x y=>∃z,x=I Z z/\(X base p y->(t<=z->Y Tryz.prog 75 [S a l c,I Z u] y fun a1 b1=>∃c1,a1=I Z c1/\(X base y b1->(c1<v->K (T #[I Z o,I Z 0]) [] b1)/\(¬c1<v->∀d1:Int,d1=W Z (o+1)->j [I Z m,I Z n,I Z d1] b1/\k [I Z m,I Z n,I Z d1]<k [I Z m,I Z n,I Z o])))/\(¬t<=z->∀a1:Int,a1=W Z (o+1)->j [I Z m,I Z n,I Z a1] y/\k [I Z m,I Z n,I Z a1]<k [I Z m,I Z n,I Z o])))/\(¬o<(l':Int)->K (T #[I Z (-1),I Z 0]) [] p)))))):=by kernel_rfl
open Go Go.Proofs
theorem cIn{H:Heap}(n a b:Int):Spec Tryz.prog 92 [i64 n,i64 a,i64 b] H fun v _=>v= .bool (inR n a b):=by
 refine Tryzvc Tryz.func92 (by kernel_rfl) (by kernel_rfl) _ rfl (fun base K=>vc102 n a b base H K) fun base hb=>⟨fun h=> ?_,fun h=> ?_⟩
 ·simp[inR,h]
 ·simp[inR,h]
def idxFrom(x:Int):Int->List Int->Int
 |_,[]=> -1
 |i,y::r=>if x=y then i else idxFrom x (i+1) r
theorem idxFrom_mem(x:Int):∀(l:List Int)(i:Int),0<=i->(0<=idxFrom x i l↔x∈l)
 | [],i,_=>by simp[idxFrom]
 |y::r,i,h=>by
  unfold idxFrom
  split
  ·rename_i e;subst e;simp[h]
  ·rename_i e;rw[idxFrom_mem x r (i+1) (by omega)];simp[e]
theorem cIndex{H:Heap}{a:O}{l c:Nat}{xs:List Int}(hx:Sl RInt 1 H a l xs)(x:Int):Spec Tryz.prog 194 [.slice a l c,i64 x] H fun v _=>v=i64 (idxFrom x 0 xs):=by
 refine Tryzvc Tryz.func194 (by kernel_rfl) (by kernel_rfl) _ rfl (fun base K=>vc140 a l c x base H K) fun base hb=> ?_
 have hle:=hx.le
 refine⟨fun vs _=>∃(d:Int)(k:Nat),vs=[i64 d,i64 k]/\k<=l/\idxFrom x k (xs.drop k)=idxFrom x 0 xs,upTo l 1,⟨0,0,rfl,by omega,rfl⟩,fun d n H' hN hI=> ?_⟩
 obtain⟨d',k,hvs,hk,hI⟩:=hI
 obtain⟨rfl,rfl⟩:d=d'/\n=(k:Int):=by simpa using hvs
 refine⟨fun hlt=>hx.int hN.ext (by omega) hlt fun y hy=> ?_,fun hge=> ?_⟩
 ·rw[Int.toNat_natCast] at hy
  rw[drop_at hy] at hI
  refine⟨fun he=> ?_,?_⟩
  ·rw[←hI,idxFrom,if_pos he]
  ·rintro he r rfl
   rw[wrap_in (by omega) (by omega)]
   exact⟨⟨d,k+1,rfl,by omega,by rw[idxFrom,if_neg he] at hI;exact hI⟩,by simp[upTo];omega⟩
 ·rw[←hI,drop_all hx.len (by omega),idxFrom]
theorem cContains{H:Heap}{a:O}{l c:Nat}{xs:List Int}(hx:Sl RInt 1 H a l xs)(x:Int):Spec Tryz.prog 137 [.slice a l c,i64 x] H fun v _=>v= .bool (decide (x∈xs)):=by
 refine Tryzvc Tryz.func137 (by kernel_rfl) (by kernel_rfl) _ rfl (fun base K=>vc103 a l c x base H K) fun base hb=> ?_
 refine(cIndex hx x).int1 fun H' _ _=> ?_
 simp[idxFrom_mem x xs 0 (by omega)]

def seenCells(s:List Int):List Value:=s.flatMap fun x=>[i64 x,.bool true]
theorem seenCells_len(s:List Int):(seenCells s).length=2*s.length:=by
 induction s with
 |nil=>rfl
 |cons a r ih=>simp[seenCells] at ih⊢;omega
theorem mapGet_seen(x:Int):∀s:List Int,mapGet (.bool false) (.int .i64 x) (seenCells s)=some (.bool (decide (x∈s)),decide (x∈s))
 | []=>by simp[seenCells,mapGet]
 |y::r=>by
  have ih:=mapGet_seen x r
  simp only[seenCells,List.flatMap_cons,List.cons_append,List.nil_append,mapGet,keySame,if_pos] at ih⊢
  by_cases e:y=x
  ·subst e;simp
  ·have e':¬x=y:=fun h=>e h.symm
   simp only[e,decide_false,List.mem_cons,e',false_or];exact ih
theorem mapSet_seen(x:Int):∀s:List Int,x∉s->mapSet (.int .i64 x) (.bool true) (seenCells s)=some (seenCells (s++[x]))
 | [],_=>rfl
 |y::r,h=>by
  have ih:=mapSet_seen x r (fun h'=>h (List.mem_cons_of_mem _ h'))
  have e:¬y=x:=fun h'=>h (h'▸List.mem_cons_self)
  have e':¬x=y:=fun h'=>h (h'▸List.mem_cons_self)
  simp only[seenCells,List.flatMap_cons,List.cons_append,List.nil_append,mapSet,keySame,if_pos,e,e',decide_false] at ih⊢
  rw[ih];rfl

abbrev Waves(H:Heap)(a:O)(n:Nat)(l:List (List Int)):Prop:=Sl (RSl RInt 1) 1 H a n l
theorem Waves.ext'{H H':Heap}{a:O}{n:Nat}{l:List (List Int)}(h:Waves H a n l)(e:Ext H H'):Waves H' a n l:=Sl.ext (RSl.mono RInt.mono) h e
theorem cWaveCheck{H:Heap}{a:O}{l c:Nat}{ws:List (List Int)}(hx:Waves H a l ws)(k:Int):Spec Tryz.prog 187 [.slice a l c,i64 k] H fun v _=>v=i64 (waveCheck ws k):=by
 refine Tryzvc Tryz.func187 (by kernel_rfl) (by kernel_rfl) _ rfl (fun base K=>vc26 a l c k base H K) fun base hb=>⟨fun h1=> ?_,fun h1=>⟨fun h2=> ?_,fun h2=> ?_⟩⟩
 ·rw[waveCheck,if_pos h1]
 ·rw[waveCheck,if_neg h1,if_pos h2]
 have hW:waveCheck ws k=waveAll k [] ws:=by rw[waveCheck,if_neg h1,if_neg h2]
 rw[hW]
 have hle:=hx.le
 intro _
 refine⟨fun vs _=>∃(d:Int)(i:Nat)(s:List Int),vs=[i64 d,i64 i,.agg (seenCells s).toArray]/\i<=l/\waveAll k s (ws.drop i)=waveAll k [] ws,upTo l 1,⟨0,0,[],rfl,by omega,rfl⟩,fun d n cs H' hN hI=> ?_⟩
 obtain⟨d',i,s,hvs,hi,hI⟩:=hI
 obtain⟨rfl,rfl,rfl⟩:d=d'/\n=(i:Int)/\cs=seenCells s:=by simpa using hvs
 refine⟨fun hlt=>hx.slice hN.ext (by omega) hlt fun w a' n' c' hw hs=> ?_,fun hge=> ?_⟩
 ·rw[Int.toNat_natCast] at hw
  rw[drop_at hw,waveAll] at hI
  have hwl:=hs.len
  have hwle:=hs.le
  refine⟨fun h0=> ?_,fun h0=> ?_⟩
  ·rw[←hI,if_pos (List.length_eq_zero_iff.1 (by omega))]
  ·rw[if_neg (by rintro rfl;simp at hwl;omega)] at hI
   refine⟨fun vs _=>∃(d2:Int)(j:Nat)(s':List Int),vs=[i64 d2,i64 j,.agg (seenCells s').toArray]/\j<=n'/\(match waveIn k s' (w.drop j) with| .error e=>e| .ok s''=>waveAll k s'' (ws.drop (i+1)))=waveAll k [] ws,
    upTo n' 1,⟨_,0,s,rfl,by omega,hI⟩,fun d2 m cs2 H2 hN2 hI2=> ?_⟩
   obtain⟨d3,j,s',hvs2,hj,hI2⟩:=hI2
   obtain⟨rfl,rfl,rfl⟩:d2=d3/\m=(j:Int)/\cs2=seenCells s':=by simpa using hvs2
   refine⟨fun hlt2=> ?_,fun hge2=> ?_⟩
   ·refine hs.int hN2.ext (by omega) hlt2 fun x hx2=> ?_
    rw[Int.toNat_natCast] at hx2
    rw[drop_at hx2,waveIn] at hI2
    refine⟨fun hlo=> ?_,fun hlo=>⟨fun hhi=> ?_,fun hhi=> ?_⟩⟩
    ·rw[if_pos hlo] at hI2;rw[←hI2]
    ·rw[if_neg hlo,if_pos hhi] at hI2;rw[←hI2]
    ·rw[if_neg hlo,if_neg hhi] at hI2
     refine⟨_,_,mapGet_seen x s',fun hm=> ?_,fun hm=> ?_⟩
     ·rw[if_pos (by simpa using hm)] at hI2;rw[←hI2]
     ·have hm':x∉s':=by simpa using hm
      rw[if_neg hm'] at hI2
      refine⟨_,mapSet_seen x s' hm',?_⟩
      rintro r rfl
      rw[wrap_in (by omega) (by omega)]
      exact⟨⟨_,j+1,s'++[x],rfl,by omega,hI2⟩,by simp[upTo];omega⟩
   ·rw[drop_all hwl (by omega),waveIn] at hI2
    rintro r rfl
    rw[wrap_in (by omega) (by omega)]
    exact⟨⟨_,i+1,s',rfl,by omega,hI2⟩,by simp[upTo];omega⟩
 ·rw[drop_all hx.len (by omega),waveAll] at hI
  rw[←hI,seenCells_len]
  refine⟨fun h=> ?_,fun h=> ?_⟩
  ·rw[if_pos (by omega)]
  ·rw[if_neg (by omega)]
theorem wrap_small{n:Int}(h: -100000<=n)(h':n<=100000):IntKind.wrap .i64 n=n:=wrap_in (by omega) (by omega)
theorem cWaveOf{H:Heap}{a:O}{l c:Nat}{ws:List (List Int)}(hx:Waves H a l ws)(k:Int):Spec Tryz.prog 49 [.slice a l c,i64 k] H fun v _=>v=i64 (waveOf ws k):=by
 have h105:∀ {H:Heap} {a:O} {l c:Nat} {xs:List Int} {p:Nat},Sl RInt 1 H a l xs->H.cell p 0=some (i64 k)->Spec Tryz.prog 136 [.slice a l c,.pointer (some ⟨p,0,none⟩)] H fun v _=>v= .bool (decide (k∈xs)):=by
  intro H a l c xs p hx hp
  refine Tryzvc Tryz.func136 (by kernel_rfl) (by kernel_rfl) _ rfl (fun base K=>vc105 a l c p base H K) fun base hb=>⟨k,hp,(cContains hx k).bool1 fun H' _ _=>rfl⟩
 have h104:∀ {H:Heap} {a:O} {l c:Nat} {ws:List (List Int)} {p:Nat},Waves H a l ws->H.cell p 0=some (i64 k)->Spec Tryz.prog 135 [.slice a l c,.func (.func 136) #[] #[.pointer (some ⟨p,0,none⟩)]] H fun v _=>v=i64 (waveOf ws k):=by
  intro H a l c ws p hx hp
  refine Tryzvc Tryz.func135 (by kernel_rfl) (by kernel_rfl) _ rfl (fun base K=>vc104 a l c p base H K) fun base hb=> ?_
  have hle:=hx.le
  refine⟨fun vs _=>∃(d:Int)(i:Nat),vs=[i64 d,i64 i]/\i<=l/\waveOfFrom k i (ws.drop i)=waveOf ws k,upTo l 1,⟨0,0,rfl,by omega,rfl⟩,fun d n H' hN hI=> ?_⟩
  obtain⟨d',i,hvs,hi,hI⟩:=hI
  obtain⟨rfl,rfl⟩:d=d'/\n=(i:Int):=by simpa using hvs
  refine⟨fun hlt=>hx.slice hN.ext (by omega) hlt fun w a' n' c' hw hs=> ?_,fun hge=> ?_⟩
  ·rw[Int.toNat_natCast] at hw
   rw[drop_at hw,waveOfFrom] at hI
   refine(h105 (hs.ext RInt.mono hN.ext) (Heap.cell_next hN.ext hp)).bool1 fun H2 _ _=>⟨fun h=> ?_,fun h=> ?_⟩
   ·rw[if_pos (by simpa using h)] at hI;rw[←hI]
   ·rw[if_neg (by simpa using h)] at hI
    rintro r rfl
    rw[wrap_in (by omega) (by omega)]
    exact⟨⟨_,i+1,rfl,by omega,hI⟩,by simp[upTo];omega⟩
  ·rw[←hI,drop_all hx.len (by omega),waveOfFrom]
 refine Tryzvc Tryz.func49 (by kernel_rfl) (by kernel_rfl) _ rfl (fun base K=>vc27 a l c k base H K) fun base hb=> ?_
 intro b
 refine⟨rfl,fun Hl hNl hb=> ?_⟩
 refine(h104 (hx.ext' hNl.ext) (p:=b) (by unfold Heap.cell;rw[hb.1];rfl)).mono fun v H2 e2 hv=>⟨_,hv,fun H' hN _=>rfl⟩
def waveNow(ws:List (List Int))(th:List Bool):Int:=if waveCheck ws th.length=0 then nowFrom th 0 ws else 0
theorem cWaveNow{H:Heap}{a a':O}{l c l' c':Nat}{ws:List (List Int)}{th:List Bool}(hx:Waves H a l ws)(ht:Sl RBool 1 H a' l' th):
  Spec Tryz.prog 252 [.slice a l c,.slice a' l' c'] H fun v _=>v= .tuple #[i64 (waveNow ws th),i64 (waveCheck ws th.length)]:=by
 refine Tryzvc Tryz.func252 (by kernel_rfl) (by kernel_rfl) _ rfl (fun base K=>vc23 a a' l c l' c' base H K) fun base hb=> ?_
 have hle:=hx.le
 have htl:=ht.len
 rw[htl]
 refine(cWaveCheck hx l').int1 fun H1 e1 hN1=>⟨fun h=> ?_,fun h=> ?_⟩
 ·rw[waveNow,htl,if_neg h]
 have h:=Decidable.not_not.1 h
 obtain⟨k1,k2,hnd,hin,hne⟩:=waveCheck_zero h
 have hW:waveNow ws th=nowFrom th 0 ws:=by rw[waveNow,htl,if_pos h]
 rw[hW,h]
 refine⟨fun vs _=>∃(d1 d2:Int)(i:Nat),vs=[i64 d1,i64 d2,i64 i]/\i<=l/\nowFrom th i (ws.drop i)=nowFrom th 0 ws,upTo l 2,⟨0,0,0,rfl,by omega,rfl⟩,fun d1 d2 n H' hN hI=> ?_⟩
 obtain⟨d1',d2',i,hvs,hi,hI⟩:=hI
 obtain⟨rfl,rfl,rfl⟩:d1=d1'/\d2=d2'/\n=(i:Int):=by simpa using hvs
 refine⟨fun hlt=>hx.slice hN.ext (by omega) hlt fun w b n' d' hw hs=> ?_,fun hge=> ?_⟩
 ·rw[Int.toNat_natCast] at hw
  rw[drop_at hw,nowFrom] at hI
  have hwle:=hs.le
  refine⟨fun vs _=>∃(d1 d2:Int)(j:Nat),vs=[i64 d1,i64 d2,i64 j]/\j<=n'/\(if(w.drop j).any (notThrough th) then(i:Int) else nowFrom th (i+1) (ws.drop (i+1)))=nowFrom th 0 ws,
   upTo n' 2,⟨_,_,0,rfl,by omega,hI⟩,fun e1 e2 m H2 hN2 hI2=> ?_⟩
  obtain⟨e1',e2',j,hvs2,hj,hI2⟩:=hI2
  obtain⟨rfl,rfl,rfl⟩:e1=e1'/\e2=e2'/\m=(j:Int):=by simpa using hvs2
  refine⟨fun hlt2=>hs.int hN2.ext (by omega) hlt2 fun x hx2=> ?_,fun hge2=> ?_⟩
  ·rw[Int.toNat_natCast] at hx2
   have hxin:=(hin x).1 (List.mem_flatten.2 ⟨w,List.mem_of_getElem? hw,List.mem_of_getElem? hx2⟩)
   rw[drop_at hx2,List.any_cons] at hI2
   refine ht.bool hN2.ext hxin.1 hxin.2 fun y hy=>⟨fun h=> ?_,fun h=> ?_⟩
   ·rw[if_pos (by simp[notThrough,hy,h])] at hI2;rw[←hI2]
   ·rintro r rfl
    rw[wrap_in (by omega) (by omega)]
    exact⟨⟨_,_,j+1,rfl,by omega,by simpa[notThrough,hy,h] using hI2⟩,by simp[upTo];omega⟩
  ·rw[drop_all hs.len (by omega),if_neg (by simp)] at hI2
   rintro r rfl
   rw[wrap_in (by omega) (by omega)]
   exact⟨⟨_,_,i+1,rfl,by omega,hI2⟩,by simp[upTo];omega⟩
 ·rw[←hI,drop_all hx.len (by omega),nowFrom]
  rw[show(i:Int)=l from by omega]
theorem ints_of_box{H:Heap}{g:Nat}{ty:TypeId}{xs:List Int}{n:Nat}(h:H g=some (boxKB ty (xs.map i64)))(hn:xs.length=n)(hle:(n:Int)<=9223372036854775807):Sl RInt 1 H (some ⟨g,0,none⟩) n xs:=
 Sl.of_has (rows:=intRows xs) (Has.of_box h (by clear h hn;induction xs with|nil=>rfl|cons x r ih=>simp[intRows] at ih⊢;exact ih) (by intro r hr;simp[intRows] at hr;obtain⟨x,_,rfl⟩:=hr;rfl) (by simp[intRows];exact hn) hle) (by simp[intRows])
  fun i r x hr hx=>by
   simp[intRows] at hr
   obtain⟨y,hy,rfl⟩:=hr
   rw[hx] at hy
   obtain rfl:=Option.some.inj hy
   rfl
open Go Go.Proofs
theorem neq48{xo yo:Operand}(a b c d:Int):RunsTo Tryz.prog (binRun .neq 91 xo yo (.agg #[.int .i64 a,.int .i64 b]) (.agg #[.int .i64 c,.int .i64 d])) (.bool (!(a==c&&b==d))):=by
 intro w
 have u3:= Tryz.underlying3
 have a3:= Tryz.isAgg3
 have z3:= Tryz.sizeOf3
 have hS: Tryz.prog.underlying 91=some (.struct (Tryz.prog.fieldsOf 91)):=by kernel_rfl
 have hp: Tryz.prog.stoodInHeld 91=false:=by kernel_rfl
 have hm: Tryz.prog.eqGuardType Tryz.prog.depth 91=false:=by kernel_rfl
 have he:(Op.equalIn 10000 91 (.agg #[.int .i64 a,.int .i64 b]) (.agg #[.int .i64 c,.int .i64 d])).run Tryz.prog w= .ok (a==c&&b==d) w:=by
  rw[show(10000:Nat)=9999+1 from rfl,run_equalIn_agg w 9999 91 _ _ hS hp]
  simp only[Program.fieldsOf,Tryz.underlying91]
  go_simp
  by_cases h1:a=c<;>by_cases h2:b=d<;>simp[h1,h2]
 simp only[binRun,Sem.run_bind,run_eqGuard_agg w _ 91 _ _ _ _ hm,Result.andThen_ok,run_neq_struct,he]
theorem eqNil{ty e:TypeId}(h: Tryz.prog.underlying ty=some (.slice e)){xo:Operand}{a:O}{n c:Nat} :RunsTo Tryz.prog (binRun .eql ty xo (.const (.slice none 0 0)) (.slice a n c) (.slice none 0 0)) (.bool a.isNone):=by
 intro w
 have hg:(eqGuard .eql ty xo (.const (.slice none 0 0)) (.slice a n c) (.slice none 0 0)).run Tryz.prog w= .ok () w:=by simp[eqGuard]
 simp only[binRun,Sem.run_bind,hg,Result.andThen_ok]
 have:=run_equal_slice_nil w ty e a n c h
 simp[binOp,this]
theorem eqBool{xo yo:Operand}{a b:Bool} :RunsTo Tryz.prog (binRun .eql 4 xo yo (.bool a) (.bool b)) (.bool (a==b)):=by
 intro w
 have hg:(eqGuard .eql 4 xo yo (.bool a) (.bool b)).run Tryz.prog w= .ok () w:=by simp[eqGuard]
 simp only[binRun,Sem.run_bind,hg,Result.andThen_ok]
 have:=run_equal_bool w 4 a b Tryz.underlying4
 simp[binOp,this]
open Go Go.Proofs
def lastName(xs:List Pin):Nat->Int
 |0=>0
 |i+1=>match xs[i]? with|some p=>p.name|none=>0
theorem cLockCheck{H:Heap}{a:O}{l c:Nat}{xs:List Pin}(hx:Pins H a l xs):Spec Tryz.prog 140 [.slice a l c] H fun v _=>v=i64 (lockCheck xs):=by
 refine Tryzvc Tryz.func140 (by kernel_rfl) (by kernel_rfl) _ rfl (fun base K=>vc62 a l c base H K) fun base hb=> ?_
 have hl:=hx.len
 refine⟨fun h=> ?_,fun h=> ?_⟩
 ·rw[lockCheck,if_pos (by omega)]
 have hW:lockCheck xs=lockFrom 0 xs:=by rw[lockCheck,if_neg (by omega)]
 rw[hW]
 refine⟨fun vs _=>∃(d:Int)(i:Nat),vs=[i64 d,i64 i]/\i<=l/\lockFrom (lastName xs i) (xs.drop i)=lockFrom 0 xs,upTo l 1,⟨0,0,rfl,by omega,rfl⟩,fun d n H' hN hI=> ?_⟩
 obtain⟨d',i,hvs,hi,hI⟩:=hI
 obtain⟨rfl,rfl⟩:d=d'/\n=(i:Int):=by simpa using hvs
 refine⟨fun hlt=>hx.pin hN.ext (by omega) hlt fun p hp=> ?_,fun hge=> ?_⟩
 ·rw[Int.toNat_natCast] at hp
  rw[drop_at hp,lockFrom] at hI
  intro _
  have hnext:lastName xs (i+1)=p.name:=by simp[lastName,hp]
  refine⟨fun h1=> ?_,fun h1=>⟨fun h2=> ?_,fun h2=>⟨fun h3=> ?_,fun h3=>⟨fun h4=> ?_,fun h4=>⟨fun h5=> ?_,fun h5=> ?_⟩⟩⟩⟩⟩
  ·rw[if_pos (by unfold badPin;omega)] at hI;rw[←hI]
  ·rw[if_pos (by unfold badPin;omega)] at hI;rw[←hI]
  ·rw[if_pos (by unfold badPin;omega)] at hI;rw[←hI]
  ·rw[if_pos (by unfold badPin;omega)] at hI;rw[←hI]
  ·rw[if_neg (by unfold badPin;omega)] at hI
   rintro r rfl
   rw[wrap_small (by omega) (by omega)]
   refine hx.pinName hN.ext (by omega) (by omega) fun q hq=> ?_
   have hlast:lastName xs i=q.name:=by
    obtain⟨j,rfl⟩:∃j,i=j+1:=⟨i-1,by omega⟩
    rw[show((j+1:Nat):Int)-1=(j:Int) from by omega,Int.toNat_natCast] at hq
    simp[lastName,hq]
   rw[hlast] at hI
   refine⟨fun h6=> ?_,fun h6=> ?_⟩
   ·rw[if_pos h6] at hI;rw[←hI]
   ·rw[if_neg h6] at hI
    rintro r rfl
    rw[wrap_small (by omega) (by omega)]
    exact⟨⟨_,i+1,rfl,by omega,by rw[hnext];exact hI⟩,by simp[upTo];omega⟩
  ·rw[if_neg (by unfold badPin;omega)] at hI
   obtain rfl:i=0:=by omega
   rw[if_neg (by simp[lastName];omega)] at hI
   rintro r rfl
   rw[wrap_small (by omega) (by omega)]
   exact⟨⟨_,1,rfl,by omega,by rw[hnext];exact hI⟩,by simp[upTo];omega⟩
 ·rw[←hI,drop_all hx.len (by omega),lockFrom]
theorem cRefLockCheck{H:Heap}{a:O}{l c:Nat}{xs:List Pin}(hx:Pins H a l xs):Spec Tryz.prog 159 [.slice a l c] H fun v _=>v=i64 (lockCheck xs):=by
 refine Tryzvc Tryz.func159 (by kernel_rfl) (by kernel_rfl) _ rfl (fun base K=>vc108 a l c base H K) fun base hb=> ?_
 have hl:=hx.len
 refine⟨fun h=> ?_,fun h=> ?_⟩
 ·rw[lockCheck,if_pos (by omega)]
 have hW:lockCheck xs=lockFrom 0 xs:=by rw[lockCheck,if_neg (by omega)]
 rw[hW]
 refine⟨fun vs _=>∃(d m:Int)(i:Nat),vs=[i64 d,i64 m,i64 i]/\i<=l/\lockFrom m (xs.drop i)=lockFrom 0 xs,upTo l 2,⟨0,0,0,rfl,by omega,rfl⟩,fun d m n H' hN hI=> ?_⟩
 obtain⟨d',m',i,hvs,hi,hI⟩:=hI
 obtain⟨rfl,rfl,rfl⟩:d=d'/\m=m'/\n=(i:Int):=by simpa using hvs
 refine⟨fun hlt=>hx.pin hN.ext (by omega) hlt fun p hp=> ?_,fun hge=> ?_⟩
 ·rw[Int.toNat_natCast] at hp
  rw[drop_at hp,lockFrom] at hI
  intro _
  refine(cIn _ _ _).bool1 fun H1 _ _=>⟨fun h1=> ?_,fun h1=>(cIn _ _ _).bool1 fun H2 _ _=>⟨fun h2=> ?_,fun h2=>⟨fun h3=> ?_,fun h3=> ?_⟩⟩⟩
  ·have:¬(1<=p.name/\p.name<=20):=by simpa[inR] using h1
   rw[if_pos (by unfold badPin;omega)] at hI;rw[←hI]
  ·have:¬(1<=p.ver/\p.ver<=99):=by simpa[inR] using h2
   rw[if_pos (by unfold badPin;omega)] at hI;rw[←hI]
  ·have h1':1<=p.name/\p.name<=20:=by simpa[inR] using h1
   have h2':1<=p.ver/\p.ver<=99:=by simpa[inR] using h2
   rw[if_neg (by unfold badPin;omega),if_pos h3] at hI;rw[←hI]
  ·have h1':1<=p.name/\p.name<=20:=by simpa[inR] using h1
   have h2':1<=p.ver/\p.ver<=99:=by simpa[inR] using h2
   rw[if_neg (by unfold badPin;omega),if_neg h3] at hI
   rintro r rfl
   rw[wrap_small (by omega) (by omega)]
   exact⟨⟨_,_,i+1,rfl,by omega,hI⟩,by simp[upTo];omega⟩
 ·rw[←hI,drop_all hx.len (by omega),lockFrom]
def pinIdx(k:Int):Int->List Pin->Int
 |_,[]=> -1
 |i,p::r=>if p.name=k then i else pinIdx k (i+1) r
theorem pinIdx_spec(k:Int):∀(xs:List Pin)(i:Int),0<=i->(pinIdx k i xs= -1/\find xs k=0/\∀p∈xs,p.name≠k)∨ ∃(j:Nat)(p:Pin),pinIdx k i xs=i+j/\xs[j]?=some p/\find xs k=p.ver/\p.name=k
 | [],i,_=> .inl ⟨rfl,rfl,by simp⟩
 |p::r,i,hi=>by
  unfold pinIdx
  by_cases e:p.name=k
  ·rw[if_pos e];exact .inr ⟨0,p,by simp,rfl,by rw[find,if_pos e],e⟩
  ·rw[if_neg e]
   rcases pinIdx_spec k r (i+1) (by omega) with⟨h1,h2,h3⟩|⟨j,q,h1,h2,h3,h4⟩
   ·exact .inl ⟨h1,by rw[find,if_neg e,h2],fun q hq=>by rcases List.mem_cons.1 hq with rfl|hq;exact e;exact h3 q hq⟩
   ·exact .inr ⟨j+1,q,by rw[h1];omega,by simpa using h2,by rw[find,if_neg e,h3],h4⟩
theorem cPinIdx{H:Heap}{a:O}{l c:Nat}{xs:List Pin}(hx:Pins H a l xs){k:Int}{p:Nat}(hp:H.cell p 0=some (i64 k)):
  Spec Tryz.prog 147 [.slice a l c,.func (.func 148) #[] #[.pointer (some ⟨p,0,none⟩)]] H fun v _=>v=i64 (pinIdx k 0 xs):=by
 have h114:∀ {H:Heap} {n v:Int},H.cell p 0=some (i64 k)->Spec Tryz.prog 148 [.agg #[.int .i64 n,.int .i64 v],.pointer (some ⟨p,0,none⟩)] H fun r _=>r= .bool (decide (n=k)):=by
  intro H n v hp
  refine Tryzvc Tryz.func148 (by kernel_rfl) (by kernel_rfl) _ rfl (fun base K=>vc114 n v p base H K) fun base hb=> ?_
  intro _
  exact⟨k,hp,rfl⟩
 refine Tryzvc Tryz.func147 (by kernel_rfl) (by kernel_rfl) _ rfl (fun base K=>vc113 a l c p base H K) fun base hb=> ?_
 have hle:=hx.le
 refine⟨fun vs _=>∃(d:Int)(i:Nat),vs=[i64 d,i64 i]/\i<=l/\pinIdx k i (xs.drop i)=pinIdx k 0 xs,upTo l 1,⟨0,0,rfl,by omega,rfl⟩,fun d n H' hN hI=> ?_⟩
 obtain⟨d',i,hvs,hi,hI⟩:=hI
 obtain⟨rfl,rfl⟩:d=d'/\n=(i:Int):=by simpa using hvs
 refine⟨fun hlt=>hx.pin hN.ext (by omega) hlt fun q hq=> ?_,fun hge=> ?_⟩
 ·rw[Int.toNat_natCast] at hq
  rw[drop_at hq,pinIdx] at hI
  refine(h114 (Heap.cell_next hN.ext hp)).bool1 fun H2 _ _=>⟨fun h=> ?_,fun h=> ?_⟩
  ·rw[if_pos (by simpa using h)] at hI;rw[←hI]
  ·rw[if_neg (by simpa using h)] at hI
   rintro r rfl
   rw[wrap_in (by omega) (by omega)]
   exact⟨⟨_,i+1,rfl,by omega,hI⟩,by simp[upTo];omega⟩
 ·rw[←hI,drop_all hx.len (by omega),pinIdx]
theorem cFind{H:Heap}{a:O}{l c:Nat}{xs:List Pin}(hx:Pins H a l xs)(k:Int):Spec Tryz.prog 75 [.slice a l c,i64 k] H fun v _=>v=i64 (find xs k):=by
 refine Tryzvc Tryz.func75 (by kernel_rfl) (by kernel_rfl) _ rfl (fun base K=>vc42 a l c k base H K) fun base hb=> ?_
 intro b
 refine⟨rfl,fun Hl hNl hb=> ?_⟩
 refine(cPinIdx (hx.ext' hNl.ext) (k:=k) (p:=b) (by unfold Heap.cell;rw[hb.1];rfl)).mono fun v H2 e2 hv=>⟨_,hv,fun H' hN _=> ?_⟩
 rcases pinIdx_spec k xs 0 (by omega) with⟨h1,h2,_⟩|⟨j,p,h1,h2,h3,_⟩
 ·rw[h1,h2];exact⟨fun _=>rfl,fun h=>absurd (by omega) h⟩
 ·rw[h1]
  have hj:=(List.getElem?_eq_some_iff.1 h2).1
  have hl:=hx.len
  refine⟨fun h=>by omega,fun _=>hx.pinVer hN.ext (by omega) (by omega) fun q hq=> ?_⟩
  rw[show(0+(j:Int)).toNat=j from by omega,h2] at hq
  obtain rfl:=Option.some.inj hq
  rw[h3]
theorem get_two{x y n:Int}{k:Nat}(hk:k<2)(h:n=if k=0 then x else y):([Value.int .i64 x,Value.int .i64 y]:List Value)[k*1]?=some (.int .i64 n):=by
 subst h
 match k,hk with
 |0,_=>rfl
 |1,_=>rfl
theorem cRuleCheck{H:Heap}{a:O}{l c:Nat}{rs:List Rule}(hx:Rules H a l rs):Spec Tryz.prog 222 [.slice a l c] H fun v _=>v=i64 (rulesCheck rs):=by
 refine Tryzvc Tryz.func222 (by kernel_rfl) (by kernel_rfl) _ rfl (fun base K=>vc39 a l c base H K) fun base hb=> ?_
 have hl:=hx.len
 refine⟨fun h=> ?_,fun h=> ?_⟩
 ·rw[rulesCheck,if_pos (by omega)]
 have hW:rulesCheck rs=rulesFrom rs:=by rw[rulesCheck,if_neg (by omega)]
 rw[hW]
 refine⟨fun vs _=>∃(d:Int)(i:Nat),vs=[i64 d,i64 i]/\i<=l/\rulesFrom (rs.drop i)=rulesFrom rs,upTo l 1,⟨0,0,rfl,by omega,rfl⟩,fun d n H' hN hI=> ?_⟩
 obtain⟨d',i,hvs,hi,hI⟩:=hI
 obtain⟨rfl,rfl⟩:d=d'/\n=(i:Int):=by simpa using hvs
 refine⟨fun hlt=>hx.rule hN.ext (by omega) hlt fun p hp=> ?_,fun hge=> ?_⟩
 ·rw[Int.toNat_natCast] at hp
  rw[drop_at hp,rulesFrom] at hI
  intro _
  refine⟨fun vs _=>∃(d:Int)(j:Nat),vs=[i64 d,i64 j]/\j<=2/\(0<j->1<=p.name/\p.name<=20)/\(1<j->1<=p.wth/\p.wth<=20),upTo 2 1,⟨_,0,rfl,by omega,by omega,by omega⟩,fun d2 m H2 hN2 hI2=> ?_⟩
  obtain⟨d3,j,hvs2,hj,hj0,hj1⟩:=hI2
  obtain⟨rfl,rfl⟩:d2=d3/\m=(j:Int):=by simpa using hvs2
  refine⟨fun hlt2=>⟨by omega,hlt2,(if j=0 then p.name else p.wth),?_,fun g1=> ?_,fun g1=>⟨fun g2=> ?_,fun g2=> ?_⟩⟩,fun hge2=> ?_⟩
  ·rw[Int.toNat_natCast];exact get_two (by omega) rfl
  ·rw[if_pos (by unfold badRule;split at g1<;>omega)] at hI;rw[←hI]
  ·rw[if_pos (by unfold badRule;split at g2<;>omega)] at hI;rw[←hI]
  ·rintro r rfl
   rw[wrap_small (by omega) (by omega)]
   refine⟨rfl,⟨_,j+1,rfl,by omega,fun _=> ?_,fun _=> ?_⟩,by simp[upTo];omega⟩
   ·by_cases e:j=0
    ·subst e;simp at g1 g2;omega
    ·exact hj0 (by omega)
   ·have e:j≠0:=by omega
    simp[e] at g1 g2;omega
  ·obtain rfl:j=2:=by omega
   have k0:=hj0 (by omega)
   have k1:=hj1 (by omega)
   refine⟨fun vs _=>∃(d:Int)(j:Nat),vs=[i64 d,i64 j]/\j<=2/\(0<j->1<=p.ver/\p.ver<=99)/\(1<j->1<=p.least/\p.least<=99),upTo 2 1,⟨_,0,rfl,by omega,by omega,by omega⟩,fun d2 m H2 hN2 hI2=> ?_⟩
   obtain⟨d3,j,hvs2,hj,hj0,hj1⟩:=hI2
   obtain⟨rfl,rfl⟩:d2=d3/\m=(j:Int):=by simpa using hvs2
   refine⟨fun hlt2=>⟨by omega,hlt2,(if j=0 then p.ver else p.least),?_,fun g1=> ?_,fun g1=>⟨fun g2=> ?_,fun g2=> ?_⟩⟩,fun hge2=> ?_⟩
   ·rw[Int.toNat_natCast];exact get_two (by omega) rfl
   ·rw[if_pos (by unfold badRule;split at g1<;>omega)] at hI;rw[←hI]
   ·rw[if_pos (by unfold badRule;split at g2<;>omega)] at hI;rw[←hI]
   ·rintro r rfl
    rw[wrap_small (by omega) (by omega)]
    refine⟨rfl,⟨_,j+1,rfl,by omega,fun _=> ?_,fun _=> ?_⟩,by simp[upTo];omega⟩
    ·by_cases e:j=0
     ·subst e;simp at g1 g2;omega
     ·exact hj0 (by omega)
    ·have e:j≠0:=by omega
     simp[e] at g1 g2;omega
   ·obtain rfl:j=2:=by omega
    have k2:=hj0 (by omega)
    have k3:=hj1 (by omega)
    rw[if_neg (by unfold badRule;omega)] at hI
    refine⟨fun h=> ?_,fun h=> ?_⟩
    ·rw[if_pos h] at hI;rw[←hI]
    ·rw[if_neg h] at hI
     rintro r rfl
     rw[wrap_small (by omega) (by omega)]
     exact⟨⟨_,i+1,rfl,by omega,hI⟩,by simp[upTo];omega⟩
 ·rw[←hI,drop_all hx.len (by omega),rulesFrom]
theorem cBroken{H:Heap}{a a':O}{l c l' c':Nat}{xs:List Pin}{rs:List Rule}(hx:Pins H a l xs)(hr:Rules H a' l' rs):
  Spec Tryz.prog 186 [.slice a l c,.slice a' l' c'] H fun v _=>v= .tuple #[i64 (broken xs rs),i64 (brokenErr xs rs)]:=by
 refine Tryzvc Tryz.func186 (by kernel_rfl) (by kernel_rfl) _ rfl (fun base K=>vc34 a a' l c l' c' base H K) fun base hb=> ?_
 refine(cLockCheck hx).int1 fun H1 e1 hN1=>⟨fun h=> ?_,fun h=>(cRuleCheck (hr.ext' e1)).int1 fun H2 e2 hN2=>⟨fun h2=> ?_,fun h2=> ?_⟩⟩
 ·have e:brokenErr xs rs=lockCheck xs:=by rw[brokenErr,if_neg h]
  rw[broken,e,if_neg h]
 ·have e:brokenErr xs rs=rulesCheck rs:=by rw[brokenErr,if_pos (Decidable.not_not.1 h)]
  rw[broken,e,if_neg h2]
 have e:brokenErr xs rs=0:=by rw[brokenErr,if_pos (Decidable.not_not.1 h)];exact Decidable.not_not.1 h2
 have hW:broken xs rs=brokenFrom xs 0 rs:=by rw[broken,if_pos e]
 rw[e,hW]
 have hle:=hr.le
 refine⟨fun vs _=>∃(d1 d2:Int)(i:Nat),vs=[i64 d1,i64 d2,i64 i]/\i<=l'/\brokenFrom xs i (rs.drop i)=brokenFrom xs 0 rs,upTo l' 2,⟨0,0,0,rfl,by omega,rfl⟩,fun d1 d2 n H' hN hI=> ?_⟩
 obtain⟨d1',d2',i,hvs,hi,hI⟩:=hI
 obtain⟨rfl,rfl,rfl⟩:d1=d1'/\d2=d2'/\n=(i:Int):=by simpa using hvs
 refine⟨fun hlt=>hr.rule hN.ext (by omega) hlt fun p hp=> ?_,fun hge=> ?_⟩
 ·rw[Int.toNat_natCast] at hp
  rw[drop_at hp,brokenFrom] at hI
  intro _
  refine(cFind (hx.ext' hN.ext) _).int1 fun H3 e3 hN3=>⟨fun h3=>(cFind ((hx.ext' hN.ext).ext' e3) _).int1 fun H4 e4 hN4=>⟨fun h4=> ?_,fun h4=> ?_⟩,fun h3=> ?_⟩
  ·rw[if_pos ⟨h3,h4⟩] at hI;rw[←hI]
  ·rw[if_neg (fun h=>h4 h.2)] at hI
   rintro r rfl
   rw[wrap_in (by omega) (by omega)]
   exact⟨⟨_,_,i+1,rfl,by omega,hI⟩,by simp[upTo];omega⟩
  ·rw[if_neg (fun h=>h3 h.1)] at hI
   rintro r rfl
   rw[wrap_in (by omega) (by omega)]
   exact⟨⟨_,_,i+1,rfl,by omega,hI⟩,by simp[upTo];omega⟩
 ·rw[←hI,drop_all hr.len (by omega),brokenFrom]
open Go Go.Proofs
theorem drop_eq_iff{α:Type}{xs ys:List α}{k:Nat}{p q:α}(hp:xs[k]?=some p)(hq:ys[k]?=some q):(xs.drop k=ys.drop k)↔(p=q/\xs.drop (k+1)=ys.drop (k+1)):=by
 rw[drop_at hp,drop_at hq];simp
theorem cEqPins{H:Heap}{a a':O}{l c l' c':Nat}{xs ys:List Pin}(hx:Pins H a l xs)(hy:Pins H a' l' ys):
  Spec Tryz.prog 47 [.slice a l c,.slice a' l' c'] H fun v _=>v= .bool (decide (xs=ys)):=by
 refine Tryzvc Tryz.func47 (by kernel_rfl) (by kernel_rfl) _ rfl (fun base K=>vc41 a a' l c l' c' base H K) fun base hb=> ?_
 have hxl:=hx.len
 have hyl:=hy.len
 have hle:=hx.le
 refine⟨fun hne=> ?_,fun he=> ?_⟩
 ·rw[decide_eq_false];rintro rfl;omega
 ·refine⟨fun vs _=>∃(b:Bool)(k:Nat),vs=[.bool b,i64 k]/\k<=l/\(xs.drop k=ys.drop k↔xs=ys),upTo l 1,⟨false,0,rfl,by omega,by simp⟩,fun b n H' hN hI=> ?_⟩
  obtain⟨b',k,hvs,hk,hI⟩:=hI
  obtain⟨rfl,rfl⟩:b=b'/\n=(k:Int):=by simpa using hvs
  refine⟨fun hlt=>hx.pin hN.ext (by omega) hlt fun p hp=>hy.pin hN.ext (by omega) (by omega) fun q hq=>⟨_,neq48 _ _ _ _,fun h=> ?_,fun h=> ?_⟩,fun hge=> ?_⟩
  ·rw[Int.toNat_natCast] at hp hq
   rw[drop_eq_iff hp hq] at hI
   rw[decide_eq_false]
   intro e
   obtain⟨rfl,_⟩:=hI.2 e
   simp at h
  ·rw[Int.toNat_natCast] at hp hq
   rw[drop_eq_iff hp hq] at hI
   have hpq:p=q:=by
    cases p;cases q;simp at h;simp[h]
   rintro r rfl
   rw[wrap_in (by omega) (by omega)]
   exact⟨⟨b,k+1,rfl,by omega,by rw[←hI];simp[hpq]⟩,by simp[upTo];omega⟩
  ·rw[decide_eq_true]
   exact hI.1 (by rw[drop_all hxl (by omega),drop_all hyl (by omega)])
theorem pins_of_row{base:Nat}{H:Heap}{e:TypeId}{a:O}{n c:Nat}{xs:List Pin}(h:Row base H e 2 a n c (xs.flatMap pinCells)):Pins H a n xs:=sl_of_rowE pinCells_len (by omega) h
theorem one_pins(xs:List Pin):allOne (xs.flatMap pinCells)=true:=allOne_flat (fun _=>rfl) xs
open Classical in
open Go Go.Proofs
open Go Go.Proofs
theorem vc54(a a':O)(l c l' c':Nat)(base:Nat)(H:Heap)(K:KT):
 (fV TryzMutsJ Tryz.f57 base H [.v (S a l c),.v (S a' l' c')] [] K)=(
 ∃(b:LI)(d:LM),b [S none 0 0,I Z 0,I Z 0] H/\∀(e:O)(g h:Nat)(i j:Int)(k:Heap),X base H k->b [S e g h,I Z i,I Z j] k->(j<2->0<=j/\j<2/\∃m n o,List.get?Internal [S a l c,S a' l' c'] (N j*1)=some (S m n o)/\Y Tryz.prog 140 [S m n o] k fun p q=>∃r,p=I Z r/\(X base k q->(¬r=0->K (T #[S none 0 0,I Z r]) [] q)/\(¬¬r=0->∀s:Int,s=W Z (j+1)->b [S e g h,I Z i,I Z s] q/\d [S e g h,I Z i,I Z s]<d [S e g h,I Z i,I Z j])))/\(¬j<2->∃(m:LI)(n:LM),m [S none 0 0,I Z 0] k/\∀(o:O)(p q:Nat)(r:Int)(s:Heap),X base H s->m [S o p q,I Z r] s->(r<(l:Int)->∃t u,a=some (D t u none)/\0<=r/\r<(l:Int)/\∃v w:Int,(C s t (u+N r*2)=some (I Z v)/\C s t (u+N r*2+1)=some (I Z w)/\True)/\∀x:Nat,Y Tryz.prog 75 [S a' l' c',I Z v] s fun y z=>∃a1,y=I Z a1/\(X base s z->(a1=0->∀b1:Nat,∃c1:List Value,Row base z 182 3 o p q c1/\(p+1)*24<=140737488355328/\p+1<=9223372036854775807/\∀(d1:O)(e1:Nat)(f1:Heap),Grew base z f1 o q d1 e1 (p+1)->Row base f1 182 3 d1 (p+1) e1 (c1++[I Z 2,I Z v,I Z 0])->∀g1:Int,g1=W Z (r+1)->m [S d1 (p+1) e1,I Z g1] f1/\n [S d1 (p+1) e1,I Z g1]<n [S o p q,I Z r])/\(¬a1=0->∀b1:Int,b1=W Z (r+1)->m [S o p q,I Z b1] z/\n [S o p q,I Z b1]<n [S o p q,I Z r])))/\(¬r<(l:Int)->∃(t:LI)(u:LM),t [S o p q,I Z 0] s/\∀(v:O)(w x:Nat)(y:Int)(z:Heap),X base H z->t [S v w x,I Z y] z->(y<(l':Int)->∃a1 b1,a'=some (D a1 b1 none)/\0<=y/\y<(l':Int)/\∃c1 d1:Int,(C z a1 (b1+N y*2)=some (I Z c1)/\C z a1 (b1+N y*2+1)=some (I Z d1)/\True)/\∀e1:Nat,Y Tryz.prog 75 [S a l c,I Z c1] z fun f1 g1=>∃h1,f1=I Z h1/\(X base z g1->(h1=d1->∀i1:Int,i1=W Z (y+1)->t [S v w x,I Z i1] g1/\u [S v w x,I Z i1]<u [S v w x,I Z y])/\(¬h1=d1->(h1=0->∀i1:Nat,∃j1:List Value,Row base g1 182 3 v w x j1/\(w+1)*24<=140737488355328/\w+1<=9223372036854775807/\∀(k1:O)(l1:Nat)(m1:Heap),Grew base g1 m1 v x k1 l1 (w+1)->Row base m1 182 3 k1 (w+1) l1 (j1++[I Z 1,I Z c1,I Z d1])->∀n1:Int,n1=W Z (y+1)->t [S k1 (w+1) l1,I Z n1] m1/\u [S k1 (w+1)
 l1,I Z n1]<u [S v w x,I Z y])/\(¬h1=0->∀i1:Nat,∃j1:List Value,Row base g1 182 3 v w x j1/\(w+1)*24<=140737488355328/\w+1<=9223372036854775807/\∀(k1:O)(l1:Nat)(m1:Heap),Grew base g1 m1 v x k1 l1 (w+1)->Row base m1 182 3 k1 (w+1) l1 (j1++[I Z 3,I Z c1,I Z d1])->∀n1:Int,n1=W Z (y+1)->t [S k1 (w+1) l1,I Z n1] m1/\u [S k1 (w+1) l1,I Z n1]<u [S v w x,I Z y]))))/\(¬y<(l':Int)->K (T #[S v w x,I Z 0]) [] z)))):=by kernel_rfl
theorem vc120(n v:Int)(p:Nat)(base:Nat)(H:Heap)(K:KT):
 (fV TryzMutsJ Tryz.f234 base H [.v (A #[I Z n,I Z v]),.v (.pointer (some ⟨p,0,none⟩))] [] K)=(
 ∀a:Nat,∃b,C H p 1=some (I Z b)/\K (B (decide (n=b))) [] H):=by kernel_rfl
theorem vc113b(a:O)(l c:Nat)(p:Nat)(base:Nat)(H:Heap)(K:KT):
 (fV TryzMutsJ Tryz.f147 base H [.v (S a l c),.v (.func (.func 234) #[] #[.pointer (some ⟨p,0,none⟩)])] [] K)=(
 ∃(b:LI)(d:LM),b [I Z 0,I Z 0] H/\∀(e g:Int)(h:Heap),X base H h->b [I Z e,I Z g] h->(g<(l:Int)->∃i j,a=some (D i j none)/\0<=g/\g<(l:Int)/\∃k m:Int,(C h i (j+N g*2)=some (I Z k)/\C h i (j+N g*2+1)=some (I Z m)/\True)/\Y Tryz.prog 234 [A #[I Z k,I Z m],P (some (D p 0 none))] h fun n o=>∃q,n=B q/\(X base h o->(q=true->K (I Z g) [] o)/\(q=false->∀r:Int,r=W Z (g+1)->b [I Z e,I Z r] o/\d [I Z e,I Z r]<d [I Z e,I Z g])))/\(¬g<(l:Int)->K (I Z (-1)) [] h)):=by kernel_rfl
theorem vc121(a:O)(l c:Nat)(base:Nat)(H:Heap)(K:KT):
 (fV TryzMutsJ Tryz.f163 base H [.v (S a l c)] [] K)=(
 ∃b,RunsTo Tryz.prog (binRun BinOp.eql 22 (Operand.tmp 3) (Operand.const (S none 0 0)) (S a l c) (S none 0 0)) (B b)/\(b=true->K (S none 0 0) [] H)/\(¬b=true->∀(d:Nat)(e:Heap),X base H e->H d=none->e d=some (boxKB 91 [])->∃g h:List Value,Row base e 91 2 (some (D d 0 none)) 0 0 g/\List.length h=l*2/\allOne h=true/\(l=0∨∃i j,a=some (D i j none)/\cellsAt e i j 0 h)/\(0+l)*16<=140737488355328/\0+l<=9223372036854775807/\∀(i:O)(j:Nat)(k:Heap),Grew base e k (some (D d 0 none)) 0 i j (0+l)->Row base k 91 2 i (0+l) j (g++h)->K (S i (0+l) j) [] k)):=by kernel_rfl
theorem vc55(a:O)(l c:Nat)(kd n v:Int)(base:Nat)(H:Heap)(K:KT):
 (fV TryzMutsJ Tryz.f204 base H [.v (S a l c),.v (A #[I Z kd,I Z n,I Z v])] [] K)=(
 ∀b:Nat,(fun w1:LB=>Y Tryz.prog 140 [S a l c] H fun d e=>∃g,d=I Z g/\(X base H e->(¬g=0->K (T #[S none 0 0,I Z g]) [] e)/\(¬¬g=0->∃h:Prop,((kd<1->w1=w1/\SubH e e/\h)/\(¬kd<1->w1=w1/\SubH e e/\(h↔3<kd)))/\(h->K (T #[S none 0 0,I Z 4]) [] e)/\(¬h->∃i:Prop,((n<1->w1=w1/\SubH e e/\i)/\(¬n<1->(20<n->w1=w1/\SubH e e/\i)/\(¬20<n->(¬kd=2->(v<1->w1=w1/\SubH e e/\i)/\(¬v<1->(99<v->w1=w1/\SubH e e/\i)/\(¬99<v->(kd=2->w1=w1/\SubH e e/\(i↔¬v=0))/\(¬kd=2->w1=w1/\SubH e e/\¬i))))/\(¬¬kd=2->(kd=2->w1=w1/\SubH e e/\(i↔¬v=0))/\(¬kd=2->w1=w1/\SubH e e/\¬i)))))/\(i->K (T #[S none 0 0,I Z 3]) [] e)/\(¬i->true=true/\∀j:Heap,X 0 e j->j b=some (boxKB 182 [I Z kd,I Z n,I Z v])/\True->Y Tryz.prog 147 [S a l c,Value.func (Fn.func 234) #[] #[P (some (D b 0 none))]] j fun k m=>∃o,k=I Z o/\∀p,X base e p->(∀(q:Nat)(r:KB),m q=some r->(∀s:Bx,s∈w1->q≠Bx.b s)->p q=some r)->∃q:Prop,((kd=1->w1=w1/\SubH p p/\(q↔0<=o))/\(¬kd=1->w1=w1/\SubH p p/\¬q))/\(q->K (T #[S none 0 0,I Z 6]) [] p)/\(¬q->∃r:Prop,((¬kd=1->w1=w1/\SubH p p/\(r↔o<0))/\(¬¬kd=1->w1=w1/\SubH p p/\¬r))/\(r->K (T #[S none 0 0,I Z 5]) [] p)/\(¬r->Y Tryz.prog 163 [S a l c] p fun s t=>∃u w x,s=S u w x/\(X base p t->(kd=1->((w:Int)=12->K (T #[S none 0 0,I Z 2]) [] t)/\(¬(w:Int)=12->∃(y:LI)(z:LM),y [I Z 0] t/\∀(a1:Int)(b1:Heap),X base H b1->y [I Z a1] b1->(a1<(w:Int)->∃c1 d1,u=some (D c1 d1 none)/\0<=a1/\a1<(w:Int)/\∃e1,C b1 c1 (d1+N a1*2)=some (I Z e1)/\(e1<n->∀f1:Int,f1=W Z (a1+1)->[[I Z kd,I Z n,I Z v]]=[[I Z kd,I Z n,I Z v]]/\y [I Z f1] b1/\z [I Z f1]<z [I Z a1])/\(¬e1<n->∀(f1:Nat)(g1:Heap),X base b1 g1->b1 f1=none->g1 f1=some (boxKB 91 [I Z n,I Z v])->∃(h1 i1:List Value)(j1:Nat),a1=(j1:Int)/\j1<=w/\w<=1000000/\Row base g1 91 2 u w x h1/\allOne h1=true/\List.length i1=2/\allOne i1=true/\g1 f1=some (boxKB 91 i1)/\(x≠0->u≠some (D f1 0 none))/\∀(k1:O)(l1:Nat)(m1:Heap),Grew base g1 m1 u x k1 l1 (w+1)->Row base m1 91 2 k1 (w+1) l1 (List.take (j1*2) h1++i1++List.drop (j1*2) h1)->K (T
 #[S k1 (w+1) l1,I Z 0]) [] m1))/\(¬a1<(w:Int)->∀(c1:Nat)(d1:Heap),X base b1 d1->b1 c1=none->d1 c1=some (boxKB 91 [I Z n,I Z v])->∃(e1 f1:List Value)(g1:Nat),a1=(g1:Int)/\g1<=w/\w<=1000000/\Row base d1 91 2 u w x e1/\allOne e1=true/\List.length f1=2/\allOne f1=true/\d1 c1=some (boxKB 91 f1)/\(x≠0->u≠some (D c1 0 none))/\∀(h1:O)(i1:Nat)(j1:Heap),Grew base d1 j1 u x h1 i1 (w+1)->Row base j1 91 2 h1 (w+1) i1 (List.take (g1*2) e1++f1++List.drop (g1*2) e1)->K (T #[S h1 (w+1) i1,I Z 0]) [] j1)))/\(¬kd=1->(kd=2->∀y:Int,y=W Z (o+1)->∃(z:List Value)(a1 b1:Nat),o=(a1:Int)/\y=(b1:Int)/\a1<=b1/\b1<=w/\w<=1000000/\Row base t 91 2 u w x z/\allOne z=true/\∀c1:Heap,Grew base t c1 u x u x (a1+(w-b1))->Row base c1 91 2 u (a1+(w-b1)) x (List.take (a1*2) z++List.drop (b1*2) z)->K (T #[S u (a1+(w-b1)) x,I Z 0]) [] c1)/\(¬kd=2->(kd=3->∃y z,u=some (D y z none)/\0<=o/\o<(w:Int)/\∃a1:KB,t y=some a1/\KB.free a1=true/\base<=y/\z+N o*2+1+1<=KB.size a1/\∀b1:Heap,Upd t y (z+N o*2+1) a1 [I Z v] b1->K (T #[S u w x,I Z 0]) [] b1)/\(¬kd=3->K (T #[S u w x,I Z 0]) [] t))))))))))) [J b false 182 [I Z kd,I Z n,I Z v]]):=by kernel_rfl
open Go Go.Proofs
theorem vc68(id:Int)(a:O)(l c:Nat)(base:Nat)(H:Heap)(K:KT):
 (fV TryzMutsJ Tryz.f167 base H [.v (A #[I Z id,S a l c])] [] K)=(
 ∀b:Nat,(fun w1:LB=>∃d:Prop,((id<1->w1=w1/\SubH H H/\d)/\(¬id<1->w1=w1/\SubH H H/\(d↔6<id)))/\(d->K (I Z 3) [] H)/\(¬d->Y Tryz.prog 140 [S a l c] H fun e g=>∃h,e=I Z h/\(X base H g->K (I Z h) [] g))) [J b false 24 [I Z id,S a l c]]):=by kernel_rfl
theorem vc86(id id':Int)(a a':O)(l c l' c':Nat)(base:Nat)(H:Heap)(K:KT):
 (fV TryzMutsJ Tryz.f56 base H [.v (A #[I Z id,S a l c]),.v (A #[I Z id',S a' l' c'])] [] K)=(
 ∀b d:Nat,(fun w1:LB=>∃e:Prop,((¬id=id'->w1=w1/\SubH H H/\e)/\(¬¬id=id'->w1=w1/\SubH H H/\(e↔¬(l:Int)=(l':Int))))/\(e->K (B false) [] H)/\(¬e->∃(g:LI)(h:LM),g [B false,I Z 0] H/\∀(i:Bool)(j:Int)(k:Heap),X base H k->g [B i,I Z j] k->(j<(l:Int)->∃m n,a=some (D m n none)/\0<=j/\j<(l:Int)/\∃o p:Int,(C k m (n+N j*2)=some (I Z o)/\C k m (n+N j*2+1)=some (I Z p)/\True)/\∀q:Nat,∃r s,a'=some (D r s none)/\0<=j/\j<(l':Int)/\∃t u:Int,(C k r (s+N j*2)=some (I Z t)/\C k r (s+N j*2+1)=some (I Z u)/\True)/\∃v,RunsTo Tryz.prog (binRun BinOp.neq 91 (Operand.tmp 33) (Operand.tmp 34) (A #[I Z t,I Z u]) (A #[I Z o,I Z p])) (B v)/\(v=true->K (B false) [] k)/\(¬v=true->∀w:Int,w=W Z (j+1)->[[I Z id,S a l c],[I Z id',S a' l' c']]=[[I Z id,S a l c],[I Z id',S a' l' c']]/\g [B i,I Z w] k/\h [B i,I Z w]<h [B i,I Z j]))/\(¬j<(l:Int)->K (B true) [] k))) [J b false 24 [I Z id,S a l c],J d false 24 [I Z id',S a' l' c']]):=by kernel_rfl
theorem vc50(a:O)(l c:Nat)(base:Nat)(H:Heap)(K:KT):
 (fV TryzMutsJ Tryz.f102 base H [.v (S a l c)] [] K)=(
 (40<(l:Int)->K (I Z 2) [] H)/\(¬40<(l:Int)->∃(b:LI)(d:LM),b [I Z 0,I Z 0] H/\∀(e g:Int)(h:Heap),X base H h->b [I Z e,I Z g] h->(g<(l:Int)->∃i j,a=some (D i j none)/\0<=g/\g<(l:Int)/\∃(k m:Int)(n o:Bool)(p:Int)(q:O)(r s:Nat),(C h i (j+N g*6)=some (I Z k)/\C h i (j+N g*6+1)=some (I Z m)/\C h i (j+N g*6+2)=some (B n)/\C h i (j+N g*6+3)=some (B o)/\C h i (j+N g*6+4)=some (I Z p)/\C h i (j+N g*6+5)=some (S q r s)/\True)/\∀t:Nat,(fun w1:LB=>∃u:Prop,((k<0->w1=w1/\SubH h h/\u)/\(¬k<0->(6<=k->w1=w1/\SubH h h/\u)/\(¬6<=k->(m<1->w1=w1/\SubH h h/\u)/\(¬m<1->w1=w1/\SubH h h/\(u↔200<m)))))/\(u->K (I Z 3) [] h)/\(¬u->∃v:Prop,((n=true->(¬p=0->w1=w1/\SubH h h/\v)/\(¬¬p=0->(0<(r:Int)->w1=w1/\SubH h h/\v)/\(¬0<(r:Int)->(n=false->w1=w1/\SubH h h/\(v↔o=true))/\(¬n=false->w1=w1/\SubH h h/\¬v))))/\(n=false->(n=false->w1=w1/\SubH h h/\(v↔o=true))/\(¬n=false->w1=w1/\SubH h h/\¬v)))/\(v->K (I Z 4) [] h)/\(¬v->(n=true->∀w:Int,w=W Z (g+1)->b [I Z e,I Z w] h/\d [I Z e,I Z w]<d [I Z e,I Z g])/\(n=false->Y Tryz.prog 167 [A #[I Z p,S q r s]] h fun w x=>∃y,w=I Z y/\(X base h x->(¬y=0->K (I Z y) [] x)/\(¬¬y=0->∀z:Int,z=W Z (g+1)->b [I Z e,I Z z] x/\d [I Z e,I Z z]<d [I Z e,I Z g])))))) [J t false 74 [I Z k,I Z m,B n,B o,I Z p,S q r s]])/\(¬g<(l:Int)->K (I Z 0) [] h))):=by kernel_rfl
theorem vc52(a:O)(l c:Nat)(base:Nat)(H:Heap)(K:KT):
 (fV TryzMutsJ Tryz.f42 base H [.v (S a l c)] [] K)=(
 ∃b,RunsTo Tryz.prog (binRun BinOp.eql 39 (Operand.tmp 3) (Operand.const (S none 0 0)) (S a l c) (S none 0 0)) (B b)/\(b=true->K (S none 0 0) [] H)/\(¬b=true->∀(d:Nat)(e:Heap),X base H e->H d=none->e d=some (boxKB 74 [])->∃g h:List Value,Row base e 74 6 (some (D d 0 none)) 0 0 g/\List.length h=l*6/\allOne h=true/\(l=0∨∃i j,a=some (D i j none)/\cellsAt e i j 0 h)/\(0+l)*56<=140737488355328/\0+l<=9223372036854775807/\∀(i:O)(j:Nat)(k:Heap),Grew base e k (some (D d 0 none)) 0 i j (0+l)->Row base k 74 6 i (0+l) j (g++h)->K (S i (0+l) j) [] k)):=by kernel_rfl
theorem vc115(a:O)(l c:Nat)(base:Nat)(H:Heap)(K:KT):
 (fV TryzMutsJ Tryz.f172 base H [.v (S a l c)] [] K)=(
 Y Tryz.prog 42 [S a l c] H fun b d=>∃e g h,b=S e g h/\(X base H d->∃(i:LI)(j:LM),i [I Z 0] d/\∀(k:Int)(m:Heap),X base H m->i [I Z k] m->(k<(g:Int)->∃n o,e=some (D n o none)/\0<=k/\k<(g:Int)/\∃(p q:Int)(r s:Bool)(t:Int)(u:O)(v w:Nat),(C m n (o+N k*6)=some (I Z p)/\C m n (o+N k*6+1)=some (I Z q)/\C m n (o+N k*6+2)=some (B r)/\C m n (o+N k*6+3)=some (B s)/\C m n (o+N k*6+4)=some (I Z t)/\C m n (o+N k*6+5)=some (S u v w)/\True)/\∀x:Nat,Y Tryz.prog 163 [S u v w] m fun y z=>∃a1 b1 c1,y=S a1 b1 c1/\(X base m z->∃d1 e1,e=some (D d1 e1 none)/\0<=k/\k<(g:Int)/\∃f1:KB,z d1=some f1/\KB.free f1=true/\base<=d1/\e1+N k*6+4+1+1<=KB.size f1/\∀g1:Heap,Upd z d1 (e1+N k*6+4+1) f1 [S a1 b1 c1] g1->∀h1:Int,h1=W Z (k+1)->i [I Z h1] g1/\j [I Z h1]<j [I Z k]))/\(¬k<(g:Int)->K (S e g h) [] m))):=by kernel_rfl
theorem vc45(a a':O)(l c l' c':Nat)(ag tr id:Int)(rp gd:Bool)(base:Nat)(H:Heap)(K:KT):
 (fV TryzMutsJ Tryz.f245 base H [.v (S a l c),.v (A #[I Z ag,I Z tr,B rp,B gd,I Z id,S a' l' c'])] [] K)=(
 (fun w1:LV=>∀(b d:Nat)(e:Heap),X base H e->H d=none->e d=some (boxKB 74 w1)->∃(g:LI)(h:LM),g [S none 0 0,I Z 0,I Z 0] e/\∀(i:O)(j k:Nat)(m n:Int)(o:Heap),X base H o->g [S i j k,I Z m,I Z n] o->(n<2->0<=n/\n<2/\∃p q r,List.get?Internal [S a l c,S (some (D d 0 none)) 1 1] (N n*1)=some (S p q r)/\Y Tryz.prog 102 [S p q r] o fun s t=>∃u,s=I Z u/\(X base o t->(¬u=0->K (T #[S none 0 0,I Z u]) [] t)/\(¬¬u=0->∀v:Int,v=W Z (n+1)->[w1]=[w1]/\g [S i j k,I Z m,I Z v] t/\h [S i j k,I Z m,I Z v]<h [S i j k,I Z m,I Z n])))/\(¬n<2->Y Tryz.prog 172 [S a l c] o fun p q=>∃r s t,p=S r s t/\(X base o q->((s:Int)<40->∀(u:Nat)(v:Heap),X base q v->q u=none->v u=some (boxKB 74 w1)->Y Tryz.prog 172 [S (some (D u 0 none)) 1 1] v fun w x=>∃y z a1,w=S y z a1/\(X base v x->∃b1 c1:List Value,Row base x 74 6 r s t b1/\List.length c1=z*6/\allOne c1=true/\(z=0∨∃d1 e1,y=some (D d1 e1 none)/\cellsAt x d1 e1 0 c1)/\(s+z)*56<=140737488355328/\s+z<=9223372036854775807/\∀(d1:O)(e1:Nat)(f1:Heap),Grew base x f1 r t d1 e1 (s+z)->Row base f1 74 6 d1 (s+z) e1 (b1++c1)->K (T #[S d1 (s+z) e1,I Z 0]) [] f1))/\(¬(s:Int)<40->K (T #[S r s t,I Z 0]) [] q)))) [I Z ag,I Z tr,B rp,B gd,I Z id,S a' l' c']):=by kernel_rfl
theorem vc48(a:O)(l c:Nat)(k:Int)(tw:Bool)(base:Nat)(H:Heap)(K:KT):
 (fV TryzMutsJ Tryz.f175 base H [.v (S a l c),.v (I Z k),.v (B tw)] [] K)=(
 ∀b:Nat,(fun w1:LB=>Y Tryz.prog 102 [S a l c] H fun d e=>∃g,d=I Z g/\(X base H e->(¬g=0->K (T #[S none 0 0,A #[I Z 0,I Z 0,B false,B false,I Z 0,S none 0 0],I Z g]) [] e)/\(¬¬g=0->∃h:Prop,((k<0->w1=w1/\SubH e e/\h)/\(¬k<0->w1=w1/\SubH e e/\(h↔(l:Int)<=k)))/\(h->K (T #[S none 0 0,A #[I Z 0,I Z 0,B false,B false,I Z 0,S none 0 0],I Z 5]) [] e)/\(¬h->Y Tryz.prog 172 [S a l c] e fun i j=>∃m n o,i=S m n o/\(X base e j->∀p:Int,p=W Z (k+1)->0<=k/\k<=p/\p<=(o:Int)/\∀q:O,(k<(o:Int)->q=Option.map (fun r=>Addr.add r (N k*6)) m)->Y Tryz.prog 172 [S q (N p-N k) (o-N k)] j fun r s=>∃t u v,r=S t u v/\(X base j s->∃w x,t=some (D w x none)/\Int.ofNat 0<=0/\0<(u:Int)/\∃(y z:Int)(a1 b1:Bool)(c1:Int)(d1:O)(e1 f1:Nat),(C s w (x+0*6)=some (I Z y)/\C s w (x+0*6+1)=some (I Z z)/\C s w (x+0*6+2)=some (B a1)/\C s w (x+0*6+3)=some (B b1)/\C s w (x+0*6+4)=some (I Z c1)/\C s w (x+0*6+5)=some (S d1 e1 f1)/\True)/\∀g1:Nat,(tw=false->∀h1:Int,h1=W Z (k+1)->∃(i1:List Value)(j1 k1:Nat),k=(j1:Int)/\h1=(k1:Int)/\j1<=k1/\k1<=n/\n<=1000000/\Row base s 74 6 m n o i1/\allOne i1=true/\∀l1:Heap,Grew base s l1 m o m o (j1+(n-k1))->Row base l1 74 6 m (j1+(n-k1)) o (List.take (j1*6) i1++List.drop (k1*6) i1)->K (T #[S m (j1+(n-k1)) o,A #[I Z y,I Z z,B a1,B b1,I Z c1,S d1 e1 f1],I Z 0]) [] l1)/\(¬tw=false->K (T #[S m n o,A #[I Z y,I Z z,B a1,B b1,I Z c1,S d1 e1 f1],I Z 0]) [] s))))))) [J b false 74 [I Z 0,I Z 0,B false,B false,I Z 0,S none 0 0]]):=by kernel_rfl
theorem vc118(ag tr id ag' tr' id':Int)(rp gd rp' gd':Bool)(a a':O)(l c l' c':Nat)(base:Nat)(H:Heap)(K:KT):
 (fV TryzMutsJ Tryz.f132 base H [.v (A #[I Z ag,I Z tr,B rp,B gd,I Z id,S a l c]),.v (A #[I Z ag',I Z tr',B rp',B gd',I Z id',S a' l' c'])] [] K)=(
 ∀b d:Nat,(fun w1:LB=>∃e:Prop,((ag=ag'->(tr=tr'->∃g,RunsTo Tryz.prog (binRun BinOp.eql 4 (Operand.tmp 19) (Operand.tmp 21) (B rp) (B rp')) (B g)/\(g=true->∃h,RunsTo Tryz.prog (binRun BinOp.eql 4 (Operand.tmp 26) (Operand.tmp 28) (B gd) (B gd')) (B h)/\(h=true->Y Tryz.prog 56 [A #[I Z id,S a l c],A #[I Z id',S a' l' c']] H fun i j=>∃k,i=B k/\(X base H j->w1=w1/\SubH H j/\(e↔k=true)))/\(¬h=true->w1=w1/\SubH H H/\¬e))/\(¬g=true->w1=w1/\SubH H H/\¬e))/\(¬tr=tr'->w1=w1/\SubH H H/\¬e))/\(¬ag=ag'->w1=w1/\SubH H H/\¬e))/\K (B (@decide e (Classical.propDecidable e))) [] H) [J b false 74 [I Z ag,I Z tr,B rp,B gd,I Z id,S a l c],J d false 74 [I Z ag',I Z tr',B rp',B gd',I Z id',S a' l' c']]):=by kernel_rfl
theorem vc117a(a a':O)(l c l' c':Nat)(base:Nat)(H:Heap)(K:KT):
 (fV TryzMutsJ Tryz.f131 base H [.v (S a l c),.v (S a' l' c'),.v (.func (.func 132) #[] #[])] [] K)=(
 (¬(l:Int)=(l':Int)->K (B false) [] H)/\(¬¬(l:Int)=(l':Int)->∃(b:LI)(d:LM),b [B false,I Z 0] H/\∀(e:Bool)(g:Int)(h:Heap),X base H h->b [B e,I Z g] h->(g<(l:Int)->∃i j,a=some (D i j none)/\0<=g/\g<(l:Int)/\∃(k m:Int)(n o:Bool)(p:Int)(q:O)(r s:Nat),(C h i (j+N g*6)=some (I Z k)/\C h i (j+N g*6+1)=some (I Z m)/\C h i (j+N g*6+2)=some (B n)/\C h i (j+N g*6+3)=some (B o)/\C h i (j+N g*6+4)=some (I Z p)/\C h i (j+N g*6+5)=some (S q r s)/\True)/\∀t:Nat,∃u v,a'=some (D u v none)/\0<=g/\g<(l':Int)/\∃(w x:Int)(y z:Bool)(a1:Int)(b1:O)(c1 d1:Nat),(C h u (v+N g*6)=some (I Z w)/\C h u (v+N g*6+1)=some (I Z x)/\C h u (v+N g*6+2)=some (B y)/\C h u (v+N g*6+3)=some (B z)/\C h u (v+N g*6+4)=some (I Z a1)/\C h u (v+N g*6+5)=some (S b1 c1 d1)/\True)/\∀e1:Nat,Y Tryz.prog 132 [A #[I Z k,I Z m,B n,B o,I Z p,S q r s],A #[I Z w,I Z x,B y,B z,I Z a1,S b1 c1 d1]] h fun f1 g1=>∃h1,f1=B h1/\(X base h g1->(h1=false->K (B false) [] g1)/\(¬h1=false->∀i1:Int,i1=W Z (g+1)->b [B e,I Z i1] g1/\d [B e,I Z i1]<d [B e,I Z g])))/\(¬g<(l:Int)->K (B true) [] h))):=by kernel_rfl
theorem vc47(a a':O)(l c l' c':Nat)(base:Nat)(H:Heap)(K:KT):
 (fV TryzMutsJ Tryz.f44 base H [.v (S a l c),.v (S a' l' c')] [] K)=(
 Y Tryz.prog 131 [S a l c,S a' l' c',Value.func (Fn.func 132) #[] #[]] H fun b d=>∃e,b=B e/\(X base H d->K (B e) [] d)):=by kernel_rfl
theorem vc116(base:Nat)(H:Heap)(K:KT):
 (fV TryzMutsJ Tryz.f72 base H [] [] K)=(
 ∀(a b:Nat)(c:Heap),X base H c->H b=none->c b=some (boxKB 91 [I Z 1,I Z 2,I Z 2,I Z 1])->K (A #[I Z 2,S (some (D b 0 none)) 2 2]) [] c):=by kernel_rfl
open Go Go.Proofs
theorem vc158(s:ByteArray)(c:Int)(base:Nat)(H:Heap)(K:KT):
 (fV TryzMutsJ Tryz.f266 base H [.v (.string s),.v (.int .u8 c)] [] K)=(
 ∃a,ExtRuns Tryz.prog H 286 [Str s,I IntKind.u8 c] (I Z a)/\K (I Z a) [] H):=by kernel_rfl
theorem vc157(s:ByteArray)(c:UInt8)(base:Nat)(H:Heap)(K:KT):
 (fV TryzMutsJ Tryz.f247 base H [.v (.string s),.v (.string ⟨#[c]⟩)] [] K)=(
 ∃a:Prop,(((↑(ByteArray.size (ByteArray.mk #[c])):Int)=0->SubH H H/\a)/\(¬(↑(ByteArray.size (ByteArray.mk #[c])):Int)=0->∃b,RunsTo Tryz.prog (binRun BinOp.eql 9 (Operand.tmp 20) (Operand.tmp 21) (Str (ByteArray.mk #[c])) (Str s)) (B b)/\SubH H H/\(a↔b=true)))/\(a->K (I Z 0) [] H)/\(¬a->((↑(ByteArray.size (ByteArray.mk #[c])):Int)=1->∃b:Int,RunsTo Tryz.prog (Instr.index 9 (Str (ByteArray.mk #[c])) (I Z 0)) (I IntKind.u8 b)/\Y Tryz.prog 266 [Str s,I IntKind.u8 b] H fun d e=>∃g,d=I Z g/\(X base H e->K (I Z g) [] e))/\(¬(↑(ByteArray.size (ByteArray.mk #[c])):Int)=1->((↑(ByteArray.size s):Int)<=(↑(ByteArray.size (ByteArray.mk #[c])):Int)->K (I Z (-1)) [] H)/\(¬(↑(ByteArray.size s):Int)<=(↑(ByteArray.size (ByteArray.mk #[c])):Int)->∃b:Prop,(∃d,C H 0 0=some (I Z d)/\((↑(ByteArray.size (ByteArray.mk #[c])):Int)<=d->SubH H H/\(b↔(↑(ByteArray.size s):Int)<=64))/\(¬(↑(ByteArray.size (ByteArray.mk #[c])):Int)<=d->SubH H H/\¬b))/\(b->∃d,ExtRuns Tryz.prog H 267 [Str s,Str (ByteArray.mk #[c])] (I Z d)/\K (I Z d) [] H)/\(¬b->∃d:Int,RunsTo Tryz.prog (Instr.index 9 (Str (ByteArray.mk #[c])) (I Z 0)) (I IntKind.u8 d)/\∃e:Int,RunsTo Tryz.prog (Instr.index 9 (Str (ByteArray.mk #[c])) (I Z 1)) (I IntKind.u8 e)/\∀g:Int,g=W Z ((↑(ByteArray.size s):Int)-(↑(ByteArray.size (ByteArray.mk #[c])):Int))->∀h:Int,h=W Z (g+1)->∃(i:LI)(j:LM),i [I Z 0,I Z 0,I Z 0] H/\∀(k l m:Int)(n:Heap),X base H n->i [I Z k,I Z l,I Z m] n->(l<h->∃o:Int,RunsTo Tryz.prog (Instr.index 9 (Str s) (I Z l)) (I IntKind.u8 o)/\(¬o=d->∀p:Int,p=W Z (l+1)->0<=p/\p<=h/\h<=(↑(ByteArray.size s):Int)/\Y Tryz.prog 266 [Str (ByteArray.extract s (N p) (N h)),I IntKind.u8 d] n fun q r=>∃t,q=I Z t/\(X base n r->(t<0->K (I Z (-1)) [] r)/\(¬t<0->∀u:Int,u=W Z (t+1)->∀v:Int,v=W Z (l+u)->∃w:Prop,(∀x:Int,x=W Z (v+1)->∃y:Int,RunsTo Tryz.prog (Instr.index 9 (Str s) (I Z x)) (I IntKind.u8 y)/\(y=e->∀z:Int,z=W Z (v+(↑(ByteArray.size (ByteArray.mk #[c])):Int))->0<=v/\v<=z/\z<=(↑(ByteArray.size
 s):Int)/\∃a1,RunsTo Tryz.prog (binRun BinOp.eql 9 (Operand.tmp 90) (Operand.tmp 91) (Str (ByteArray.extract s (N v) (N z))) (Str (ByteArray.mk #[c]))) (B a1)/\SubH r r/\(w↔a1=true))/\(¬y=e->SubH r r/\¬w))/\(w->K (I Z v) [] r)/\(¬w->∀x:Int,(fun w1:LV=>x=W Z (v+1)->∀y:Int,y=W Z (m+1)->∃z:Prop,(∃a1,C r 0 0=some (I Z a1)/\((↑(ByteArray.size (ByteArray.mk #[c])):Int)<=a1->Y Tryz.prog 268 [I Z x] r fun b1 c1=>∃d1,b1=I Z d1/\(X base r c1->SubH r c1/\(z↔d1<y)))/\(¬(↑(ByteArray.size (ByteArray.mk #[c])):Int)<=a1->SubH r r/\¬z))/\(z->0<=x/\x<=(↑(ByteArray.size s):Int)/\∃a1,ExtRuns Tryz.prog r 267 w1 (I Z a1)/\(0<=a1->∀b1:Int,b1=W Z (a1+x)->K (I Z b1) [] r)/\(¬0<=a1->K (I Z (-1)) [] r))/\(¬z->∃a1:Prop,(∃b1,C r 0 0=some (I Z b1)/\(b1<(↑(ByteArray.size (ByteArray.mk #[c])):Int)->False)/\(¬b1<(↑(ByteArray.size (ByteArray.mk #[c])):Int)->SubH r r/\¬a1))/\(a1->0<=x/\x<=(↑(ByteArray.size s):Int)/\Y Tryz.prog 269 w1 r fun b1 c1=>∃d1,b1=I Z d1/\(X base r c1->(d1<0->K (I Z (-1)) [] c1)/\(¬d1<0->∀e1:Int,e1=W Z (x+d1)->K (I Z e1) [] c1)))/\(¬a1->i [I Z k,I Z x,I Z y] r/\j [I Z k,I Z x,I Z y]<j [I Z k,I Z l,I Z m]))) [Str (ByteArray.extract s (N x) (ByteArray.size s)),Str (ByteArray.mk #[c])]))))/\(¬¬o=d->∃p:Prop,(∀q:Int,q=W Z (l+1)->∃r:Int,RunsTo Tryz.prog (Instr.index 9 (Str s) (I Z q)) (I IntKind.u8 r)/\(r=e->∀t:Int,t=W Z (l+(↑(ByteArray.size (ByteArray.mk #[c])):Int))->0<=l/\l<=t/\t<=(↑(ByteArray.size s):Int)/\∃u,RunsTo Tryz.prog (binRun BinOp.eql 9 (Operand.tmp 90) (Operand.tmp 91) (Str (ByteArray.extract s (N l) (N t))) (Str (ByteArray.mk #[c]))) (B u)/\SubH n n/\(p↔u=true))/\(¬r=e->SubH n n/\¬p))/\(p->K (I Z l) [] n)/\(¬p->∀q:Int,(fun w2:LV=>q=W Z (l+1)->∀r:Int,r=W Z (m+1)->∃t:Prop,(∃u,C n 0 0=some (I Z u)/\((↑(ByteArray.size (ByteArray.mk #[c])):Int)<=u->Y Tryz.prog 268 [I Z q] n fun v w=>∃x,v=I Z x/\(X base n w->SubH n w/\(t↔x<r)))/\(¬(↑(ByteArray.size (ByteArray.mk #[c])):Int)<=u->SubH n n/\¬t))/\(t->0<=q/\q<=(↑(ByteArray.size s):
 Int)/\∃u,ExtRuns Tryz.prog n 267 w2 (I Z u)/\(0<=u->∀v:Int,v=W Z (u+q)->K (I Z v) [] n)/\(¬0<=u->K (I Z (-1)) [] n))/\(¬t->∃u:Prop,(∃v,C n 0 0=some (I Z v)/\(v<(↑(ByteArray.size (ByteArray.mk #[c])):Int)->False)/\(¬v<(↑(ByteArray.size (ByteArray.mk #[c])):Int)->SubH n n/\¬u))/\(u->0<=q/\q<=(↑(ByteArray.size s):Int)/\Y Tryz.prog 269 w2 n fun v w=>∃x,v=I Z x/\(X base n w->(x<0->K (I Z (-1)) [] w)/\(¬x<0->∀y:Int,y=W Z (q+x)->K (I Z y) [] w)))/\(¬u->i [I Z k,I Z q,I Z r] n/\j [I Z k,I Z q,I Z r]<j [I Z k,I Z l,I Z m]))) [Str (ByteArray.extract s (N q) (ByteArray.size s)),Str (ByteArray.mk #[c])])))/\(¬l<h->K (I Z (-1)) [] n)))))):=by kernel_rfl
theorem vc154(s t:ByteArray)(base:Nat)(H:Heap)(K:KT):
 (fV TryzMutsJ Tryz.f239 base H [.v (.string s),.v (.string t)] [] K)=(
 Y Tryz.prog 247 [Str s,Str t] H fun a b=>∃c,a=I Z c/\(X base H b->K (I Z c) [] b)):=by kernel_rfl
theorem vc144(s t:ByteArray)(base:Nat)(H:Heap)(K:KT):
 (fV TryzMutsJ Tryz.f213 base H [.v (.string s),.v (.string t)] [] K)=(
 Y Tryz.prog 239 [Str s,Str t] H fun a b=>∃c,a=I Z c/\(X base H b->K (B (decide (0<=c))) [] b)):=by kernel_rfl
theorem vc145(k:Int)(base:Nat)(H:Heap)(K:KT):
 (fV TryzMutsJ Tryz.f230 base H [.v (I Z k)] [] K)=(
 0<=k/\k<10/\∃a,List.get?Internal [Str (ByteArray.mk #[]),Str (ByteArray.mk #[116,114]),Str (ByteArray.mk #[116]),Str (ByteArray.mk #[116,103]),Str (ByteArray.mk #[114]),Str (ByteArray.mk #[110]),Str (ByteArray.mk #[97,116]),Str (ByteArray.mk #[97,116,103]),Str (ByteArray.mk #[]),Str (ByteArray.mk #[])] (N k*1)=some (Str a)/\K (Str a) [] H):=by kernel_rfl
theorem vc143(t:ByteArray)(p:Nat)(base:Nat)(H:Heap)(K:KT):
 (fV TryzMutsJ Tryz.f229 base H [.v (.string t),.v (.pointer (some ⟨p,0,none⟩))] [] K)=(
 ∃a,C H p 0=some (I Z a)/\Y Tryz.prog 230 [I Z a] H fun b c=>∃d,b=Str d/\(X base H c->Y Tryz.prog 213 [Str d,Str t] c fun e g=>∃h,e=B h/\(X base c g->K (B h) [] g))):=by kernel_rfl
abbrev vt124_3(kd ag tr n id:Int)(gd:Bool)(a:O)(l c:Nat)(base:Nat)(H:Heap)(K:KT)(b_4:Bool)(b:Nat)(H'_2:Heap)(φ:Prop):Prop:=
 (fun w1:LB=>b_4=false->(gd=true->w1=w1/\SubH H H'_2/\φ)/\(gd=false->true=true/\∀d:Heap,X 0 H'_2 d->d b=some (boxKB 126 [I Z kd,I Z ag,I Z tr,I Z n,B gd,I Z id,S a l c])/\True->Y Tryz.prog 229 [Str (ByteArray.mk #[114]),P (some (D b 0 none))] d fun e g=>∃h,e=B h/\∀i,X base H'_2 i->(∀(j:Nat)(k:KB),g j=some k->(∀m:Bx,m∈w1->j≠Bx.b m)->i j=some k)->(h=false->(¬id=0->w1=w1/\SubH H i/\φ)/\(¬¬id=0->w1=w1/\SubH H i/\(φ↔0<(l:Int))))/\(¬h=false->w1=w1/\SubH H i/\¬φ))) [J b false 126 [I Z kd,I Z ag,I Z tr,I Z n,B gd,I Z id,S a l c]]
abbrev vt124_4(kd ag tr n id:Int)(gd:Bool)(a:O)(l c:Nat)(base:Nat)(H:Heap)(K:KT)(b_4:Bool)(H'_2:Heap)(b:Nat)(φ:Prop):Prop:=
 (fun w1:LB=>¬b_4=false->true=true/\∀d:Heap,X 0 H'_2 d->d b=some (boxKB 126 [I Z kd,I Z ag,I Z tr,I Z n,B gd,I Z id,S a l c])/\True->Y Tryz.prog 229 [Str (ByteArray.mk #[114]),P (some (D b 0 none))] d fun e g=>∃h,e=B h/\∀i,X base H'_2 i->(∀(j:Nat)(k:KB),g j=some k->(∀m:Bx,m∈w1->j≠Bx.b m)->i j=some k)->(h=false->(¬id=0->w1=w1/\SubH H i/\φ)/\(¬¬id=0->w1=w1/\SubH H i/\(φ↔0<(l:Int))))/\(¬h=false->w1=w1/\SubH H i/\¬φ)) [J b false 126 [I Z kd,I Z ag,I Z tr,I Z n,B gd,I Z id,S a l c]]
abbrev vt124_1(kd ag tr n id:Int)(gd:Bool)(a:O)(l c:Nat)(base:Nat)(H:Heap)(K:KT)(b_3:Bool)(b:Nat)(H':Heap)(φ:Prop):Prop:=
 (fun w1:LV=>b_3=false->(¬n=0->[J b false 126 w1]=[J b false 126 w1]/\SubH H H'/\φ)/\(¬¬n=0->true=true/\∀d:Heap,X 0 H' d->d b=some (boxKB 126 w1)/\True->Y Tryz.prog 229 [Str (ByteArray.mk #[103]),P (some (D b 0 none))] d fun e g=>∃h,e=B h/\∀i,X base H' i->(∀(j:Nat)(k:KB),g j=some k->(∀m:Bx,m∈ [J b false 126 w1]->j≠Bx.b m)->i j=some k)->(vt124_3 kd ag tr n id gd a l c base H K h b i φ)/\(vt124_4 kd ag tr n id gd a l c base H K h i b φ))) [I Z kd,I Z ag,I Z tr,I Z n,B gd,I Z id,S a l c]
abbrev vt124_2(kd ag tr n id:Int)(gd:Bool)(a:O)(l c:Nat)(base:Nat)(H:Heap)(K:KT)(b_3:Bool)(H':Heap)(b:Nat)(φ:Prop):Prop:=
 ¬b_3=false->true=true/\∀d:Heap,X 0 H' d->d b=some (boxKB 126 [I Z kd,I Z ag,I Z tr,I Z n,B gd,I Z id,S a l c])/\True->Y Tryz.prog 229 [Str (ByteArray.mk #[103]),P (some (D b 0 none))] d fun e g=>∃h,e=B h/\∀i,X base H' i->(∀(j:Nat)(k:KB),g j=some k->(∀m:Bx,m∈ [J b false 126 [I Z kd,I Z ag,I Z tr,I Z n,B gd,I Z id,S a l c]]->j≠Bx.b m)->i j=some k)->(vt124_3 kd ag tr n id gd a l c base H K h b i φ)/\(vt124_4 kd ag tr n id gd a l c base H K h i b φ)
theorem vc124(kd ag tr n id:Int)(gd:Bool)(a:O)(l c:Nat)(base:Nat)(H:Heap)(K:KT):
 (fV TryzMutsJ Tryz.f198 base H [.v (A #[I Z kd,I Z ag,I Z tr,I Z n,B gd,I Z id,S a l c])] [] K)=(
 (fun w4:LV=>∀b:Nat,(fun w3:LV=>(fun w2:LV=>(fun w1:LB=>∃d:Prop,((kd<1->w1=w1/\SubH H H/\d)/\(¬kd<1->w1=w1/\SubH H H/\(d↔9<kd)))/\(d->K (I Z 4) [] H)/\(¬d->∃e:Prop,(true=true/\∀g:Heap,X 0 H g->g b=some (boxKB 126 w4)/\True->Y Tryz.prog 229 [Str (ByteArray.mk #[97]),P (some (D b 0 none))] g fun h i=>∃j,h=B j/\∀k,X base H k->(∀(m:Nat)(o:KB),i m=some o->(∀p:Bx,p∈w1->m≠Bx.b p)->k m=some o)->(j=false->(¬ag=0->w1=w1/\SubH H k/\e)/\(¬¬ag=0->true=true/\∀m:Heap,X 0 k m->m b=some (boxKB 126 w4)/\True->Y Tryz.prog 229 w3 m fun o p=>∃q,o=B q/\∀r,X base k r->(∀(s:Nat)(t:KB),p s=some t->(∀u:Bx,u∈w1->s≠Bx.b u)->r s=some t)->(q=false->(¬tr=0->w1=w1/\SubH H r/\e)/\(¬¬tr=0->true=true/\∀s:Heap,X 0 r s->s b=some (boxKB 126 w4)/\True->Y Tryz.prog 229 w2 s fun t u=>∃v,t=B v/\∀w,X base r w->(∀(x:Nat)(y:KB),u x=some y->(∀z:Bx,z∈w1->x≠Bx.b z)->w x=some y)->(vt124_1 kd ag tr n id gd a l c base H K v b w e)/\(vt124_2 kd ag tr n id gd a l c base H K v w b e)))/\(¬q=false->true=true/\∀s:Heap,X 0 r s->s b=some (boxKB 126 w4)/\True->Y Tryz.prog 229 w2 s fun t u=>∃v,t=B v/\∀w,X base r w->(∀(x:Nat)(y:KB),u x=some y->(∀z:Bx,z∈w1->x≠Bx.b z)->w x=some y)->(vt124_1 kd ag tr n id gd a l c base H K v b w e)/\(vt124_2 kd ag tr n id gd a l c base H K v w b e))))/\(¬j=false->true=true/\∀m:Heap,X 0 k m->m b=some (boxKB 126 w4)/\True->Y Tryz.prog 229 w3 m fun o p=>∃q,o=B q/\∀r,X base k r->(∀(s:Nat)(t:KB),p s=some t->(∀u:Bx,u∈w1->s≠Bx.b u)->r s=some t)->(q=false->(¬tr=0->w1=w1/\SubH H r/\e)/\(¬¬tr=0->true=true/\∀s:Heap,X 0 r s->s b=some (boxKB 126 w4)/\True->Y Tryz.prog 229 w2 s fun t u=>∃v,t=B v/\∀w,X base r w->(∀(x:Nat)(y:KB),u x=some y->(∀z:Bx,z∈w1->x≠Bx.b z)->w x=some y)->(vt124_1 kd ag tr n id gd a l c base H K v b w e)/\(vt124_2 kd ag tr n id gd a l c base H K v w b e)))/\(¬q=false->true=true/\∀s:Heap,X 0 r s->s b=some (boxKB 126 w4)/\True->Y Tryz.prog 229 w2 s fun t u=>∃v,t=B v/\∀w,X base r w->(∀(x:Nat)(y:KB),u x=some y->(∀z:Bx,z∈
 w1->x≠Bx.b z)->w x=some y)->(vt124_1 kd ag tr n id gd a l c base H K v b w e)/\(vt124_2 kd ag tr n id gd a l c base H K v w b e))))/\(e->K (I Z 4) [] H)/\(¬e->∃g:Prop,((ag<0->w1=w1/\SubH H H/\g)/\(¬ag<0->(6<=ag->w1=w1/\SubH H H/\g)/\(¬6<=ag->true=true/\∀h:Heap,X 0 H h->h b=some (boxKB 126 w4)/\True->Y Tryz.prog 229 w3 h fun i j=>∃k,i=B k/\∀m,X base H m->(∀(o:Nat)(p:KB),j o=some p->(∀q:Bx,q∈w1->o≠Bx.b q)->m o=some p)->(k=true->(tr<1->w1=w1/\SubH H m/\g)/\(¬tr<1->(200<tr->w1=w1/\SubH H m/\g)/\(¬200<tr->true=true/\∀o:Heap,X 0 m o->o b=some (boxKB 126 w4)/\True->Y Tryz.prog 229 w2 o fun p q=>∃r,p=B r/\∀s,X base m s->(∀(t:Nat)(u:KB),q t=some u->(∀v:Bx,v∈w1->t≠Bx.b v)->s t=some u)->(r=true->(n<1->w1=w1/\SubH H s/\g)/\(¬n<1->w1=w1/\SubH H s/\(g↔6<n)))/\(r=false->w1=w1/\SubH H s/\¬g))))/\(k=false->true=true/\∀o:Heap,X 0 m o->o b=some (boxKB 126 w4)/\True->Y Tryz.prog 229 w2 o fun p q=>∃r,p=B r/\∀s,X base m s->(∀(t:Nat)(u:KB),q t=some u->(∀v:Bx,v∈w1->t≠Bx.b v)->s t=some u)->(r=true->(n<1->w1=w1/\SubH H s/\g)/\(¬n<1->w1=w1/\SubH H s/\(g↔6<n)))/\(r=false->w1=w1/\SubH H s/\¬g)))))/\(g->K (I Z 3) [] H)/\(¬g->true=true/\∀h:Heap,X 0 H h->h b=some (boxKB 126 w4)/\True->Y Tryz.prog 229 [Str (ByteArray.mk #[114]),P (some (D b 0 none))] h fun i j=>∃k,i=B k/\∀m,X base H m->(∀(o:Nat)(p:KB),j o=some p->(∀q:Bx,q∈w1->o≠Bx.b q)->m o=some p)->(k=true->Y Tryz.prog 167 [A #[I Z id,S a l c]] m fun o p=>∃q,o=I Z q/\(X base m p->K (I Z q) [] p))/\(k=false->K (I Z 0) [] m))))) [J b false 126 w4]) [Str (ByteArray.mk #[110]),P (some (D b 0 none))]) [Str (ByteArray.mk #[116]),P (some (D b 0 none))]) [I Z kd,I Z ag,I Z tr,I Z n,B gd,I Z id,S a l c]):=by kernel_rfl
end Go.Vg
