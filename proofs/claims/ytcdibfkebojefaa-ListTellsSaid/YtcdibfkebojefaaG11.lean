import Derived.Test.YtcdibfkebojefaaG9
import Derived.Test.YtcdibfkebojefaaW26
import Derived.Test.YtcdibfkebojefaaG7

