/-
 A body of code with loops of whatever kind; a function's contract from it.
-/
import Derived.Test.YtganppkchbnikaaGreatDoorVmE
set_option linter.unusedVariables false
set_option linter.unusedSimpArgs false
namespace Go.Vm
section
variable {P:Program}{C:Ctx}{w0:World}{M:Own}{N:Nat}{A:Anns}
theorem oi:∀{ins:List (Mode×Ty)} {y:(ac (aN ins)).den} {site:Nat} {G:Heap} (k:Nat),fC ins k=[]->bH ins (qu ins k) y site G=some G
 |[],_,_,_,_,_=>rfl
 |(.rd,_)::r,y,site,G,k,h=>oi (ins:=r) (k+1) h
 |(.take,_)::r,y,site,G,k,h=>oi (ins:=r) (k+1) h
 |(.upd,_)::_,_,_,_,_,h=>by simp[fC]at h
 |(.box _,_)::_,_,_,_,_,h=>by simp[fC]at h
theorem wm {L:Loops}{f:FuncId}{fn:Func}{body:Code}{ins:List (Mode×Ty)}{outs:ks}{M:(ac (ins.map (·.2))).den->Option (ac ((outs.map (·.2)).map (·.2)++aN ins)).den}
  (hC : CtxOK P C) (hD : gE P) (hf : P.funcs[f]? = some fn) (hb : fn.body = some body) (hn : (fn.name == "runtime.NumGoroutine") = false)
  (hL:∀(w0:World) (M:Own),(∀ i,M.pin i=none)->∀ x∈aG body,ll P C w0 M fn.ntmps L x) (hd:dc fn.ntmps body=true)
  (hpins:fC ins 0=[]) (hres:fn.results=(outs.map (·.1)).toArray) (hk:lO P outs=true)
  (heq:∀ x,cO C L body (λe s=>match e with
   |.exit _=>none
   |.normal=>lP ins outs s
   |.ret=>lP ins outs s) { env:=dL ins 0 x,G:=aY ins 0 x }=M x) :
  Con.Holds P C.glob f ⟨ins,outs.map (·.2),M,false⟩:=by
 intro w F us x r hp hM;have hn' : ¬ fn.name = "runtime.NumGoroutine" := by simpa using hn
 refine .inl ⟨by simp[callFunc,hf,hn',hb],?_⟩;refine calls_of_wp hf hb ?_;obtain⟨m0,hw0,hGm,hs⟩:=uj hp fn.ntmps (oi 0 hpins);have hx:=(heq x).trans hM;have hPin:∀ i,(dA ins us) i=none:=by
  intro i;cases hv:dA ins us i with
  |none=>rfl
  |some v=>have:=sA 0 hv;rw[hpins]at this;cases this
 have fin {s':St} {a':Act} {m':Mem} (h1:lP ins outs s'=some r) (h2:m'.G=s'.G) (h3:Sim C w ⟨cL (az ins us),F,dA ins us,none⟩ fn.ntmps a' m' s'.env) :
   a'.defers=[]/\∃ v,(Go.results fn a'.tmps).run P m'.w=.ok v m'.w/\∃ v',Ending.returned v=.returned v'/\∃ us' F2 css,ku ins us us'/\PostB w F ins us us' (outs.map (·.2)) r v' m'.w F2 css:=by
  obtain⟨vs,e1,us',F2,css,e0,e2⟩:=CH (P:=P) hp h3 h2 h1 hk;refine⟨h3.defers,eL vs,?_,_,rfl,us',F2,css,e0,e2⟩;have hrun:(Go.results fn a'.tmps).run P m'.w=(((outs.map (·.1)).mapM (mX a')).run P m'.w).andThen λvs w'=>.ok (eL vs) w':=by
   have hf':Go.results fn a'.tmps=(do let vs <- fn.results.mapM (mX a');pure (if h:vs.size=1 then vs[0]else .tuple vs)):=by unfold Go.results;congr 1
   rw[hf',hres];simp only[Array.mapM_eq_mapM_toList,Sem.run_bind,map_eq_pure_bind,bind_assoc,pure_bind,Sem.run_pure];congr 1;funext l w';match l with
   |[]=>rfl
   |[u]=>rfl
   |_::_::_=>simp[eL]
  rw[hrun,e1];rfl
 subst hw0;refine kR (s:={ env:=dL ins 0 x,G:=aY ins 0 x }) hC hD body (hL _ _ hPin) hd hs hGm hx ?_;intro e s' a' m' h1 h2 h3;cases e with
 |normal=>exact fin h1 h2 h3
 |exit i=>simp at h1
 |ret=>exact fin h1 h2 h3
end
end Go.Vm
